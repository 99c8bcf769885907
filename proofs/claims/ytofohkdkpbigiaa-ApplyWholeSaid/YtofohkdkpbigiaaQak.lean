/-
  A part of the texts.
-/
import Derived.Test.YtofohkdkpbigiaaQaj
section
namespace Go.Am
section
variable {X:Ctx}
def wlV (want:Bool):Option AV→Option Bool
 |some (.bool b)=>some (b==want)
 |some (.tup _)=>some false
 | _=>none
def wlD (want:Bool)(L:Sl):Option Nat→Option Bool
 |some d=>wlV want (lk L d)
 |none=>none
def wlG (want:Bool)(L:Sl):Option Oper→Option Bool
 |some g=>wlD want L g.dst
 |none=>none
theorem J5 {ops:Array Oper}{L:Sl}{dst:Option Tmp}{op:Op}{ty:TypeId}{pos:String}{aft:Array Edge}:dG ops L ⟨dst,op,ty,pos,aft,none⟩=some true:=rfl
theorem JL {ops:Array Oper}{L:Sl}{dst:Option Tmp}{op:Op}{ty:TypeId}{pos:String}{aft:Array Edge}{j:Nat}{want:Bool}:dG ops L ⟨dst,op,ty,pos,aft,some (j,want)⟩=wlG want L (ops.toList[j]?):=by
 simp only[dG,wlG,wlD,wlV]
 cases ops.toList[j]? with
 |none=>rfl
 |some g=>
  simp only
  cases g.dst with
  |none=>rfl
  |some d=>
   simp only
   cases lk L d with
   |none=>rfl
   |some v=>cases v<;>rfl
theorem O9 {want:Bool}{L:Sl}{g:Oper}:wlG want L (some g)=wlD want L g.dst:=rfl
theorem OY {want:Bool}{L:Sl}{d:Nat}:wlD want L (some d)=wlV want (lk L d):=rfl
theorem P1 {want b:Bool}:wlV want (some (.bool b))=some (b==want):=rfl
theorem PV {want:Bool}{l:List AV}:wlV want (some (.tup l))=some false:=rfl
noncomputable def rlK (X:Ctx)(ops:Array Oper)(o:Oper)(rest:List Oper)(L:Sl)(s:St):Bool→Option RO
 |false=>none
 |true=>xh o.dst rest L s (oZ X ops rest) (opG X o.op (gL L) s)
noncomputable def rlP (X:Ctx)(ops:Array Oper)(o:Oper)(rest:List Oper)(L:Sl)(s:St):Bool→Option RO
 |true=>oZ X ops rest (bO o.dst (.tup []) L) s
 |false=>none
noncomputable def rlW (X:Ctx)(ops:Array Oper)(o:Oper)(rest:List Oper)(L:Sl)(s:St):Option Bool→Option RO
 |none=>none
 |some false=>rlP X ops o rest L s (aP X L o)
 |some true=>rlK X ops o rest L s (dV L o.op)
theorem GK {ops:Array Oper}{L:Sl}{s:St}:oZ X ops [] L s=some (.fin L s):=rfl
theorem JS {ops:Array Oper}{o:Oper}{rest:List Oper}{L:Sl}{s:St}:oZ X ops (o::rest) L s=rlW X ops o rest L s (dG ops L o):=by
 conv=>lhs;unfold oZ
 unfold rlW rlP rlK
 cases dG ops L o with
 |none=>rfl
 |some b=>cases b with
  |false=>cases aP X L o<;>rfl
  |true=>cases dV L o.op<;>rfl
theorem OG {ops:Array Oper}{o:Oper}{rest:List Oper}{L:Sl}{s:St}:rlW X ops o rest L s (some true)=rlK X ops o rest L s (dV L o.op):=rfl
theorem Pc {ops:Array Oper}{o:Oper}{rest:List Oper}{L:Sl}{s:St}:rlW X ops o rest L s (some false)=rlP X ops o rest L s (aP X L o):=rfl
theorem Ov {ops:Array Oper}{o:Oper}{rest:List Oper}{L:Sl}{s:St}:rlK X ops o rest L s true=xh o.dst rest L s (oZ X ops rest) (opG X o.op (gL L) s):=rfl
theorem PX {ops:Array Oper}{o:Oper}{rest:List Oper}{L:Sl}{s:St}:rlP X ops o rest L s true=oZ X ops rest (bO o.dst (.tup []) L) s:=rfl
section
variable {dst:Option Nat}{rest:List Oper}{L:Sl}{s s':St}{k:Sl→St→Option RO}{v:AV}{f:FuncId}{args:List AV}{b:Nat}{d:qT}
theorem NY:xh dst rest L s k (some (.old v))=k (bO dst v L) s:=rfl
theorem KS:xh dst rest L s k (some (.pure v))=k (bO dst v L) s:=rfl
theorem NV:xh dst rest L s k (some (.val v s'))=k (bO dst v L) s':=rfl
theorem KO:xh dst rest L s k (some (.call f args))=some (.call dst (.fn f) args rest L s):=rfl
theorem GC:xh dst rest L s k (some (.round b args))=some (.call dst (.rnd b) args rest L s):=rfl
theorem MK:xh dst rest L s k (some (.pan v))=some (.pan v L s):=rfl
theorem Ns:xh dst rest L s k (some (.dfr d))=some (.dfr d dst rest L s):=rfl
end
theorem Nu {d:Nat}{v:AV}{L:Sl}:bO (some d) v L=(d,v)::L:=rfl
theorem Np {v:AV}{L:Sl}:bO none v L=L:=rfl
def knX (L:Sl)(l:List Operand):Bool→Bool
 |true=>oV L l
 |false=>false
theorem N7 {L:Sl}:oV L []=true:=rfl
theorem Lr {L:Sl}{x:Operand}{l:List Operand}:oV L (x::l)=knX L l (knO L x):=by
 simp only[oV,knX]
 cases knO L x<;>rfl
theorem Pm {L:Sl}{l:List Operand}:knX L l true=oV L l:=rfl
theorem Ol {L:Sl}{t:Nat}:knO L (.tmp t)=(lk L t).isSome:=by
 simp only[knO]
 cases lk L t<;>rfl
theorem Hy {L:Sl}{v:Value}:knO L (.const v)=true:=rfl
theorem K5 {L:Sl}{g:Nat}:knO L (.global g)=true:=rfl
theorem JZ {L:Sl}{f:FuncId}:knO L (.func f)=true:=rfl
theorem Pd {L:Sl}{t:Nat}:gL L (.tmp t)=(lk L t).getD .top:=by
 simp only[gL]
 cases lk L t<;>rfl
theorem Lg {L:Sl}{v:Value}:gL L (.const v)=ofV v:=rfl
theorem NX {L:Sl}{g:Nat}:gL L (.global g)= .gp g 0:=rfl
theorem NJ {L:Sl}{f:FuncId}:gL L (.func f)= .func (.func f) [] []:=rfl
noncomputable def ryK (X:Ctx)(ops:Array Oper)(i:Nat)(o:Oper)(rest:Iy)(ok:Bool)(pend:List bn)(L:Sl)(s:St):Bool→Option RX
 |false=>none
 |true=>nG i o ok pend L s (lg X ops rest) (opG X o.op (gL L) s)
noncomputable def ryT (X:Ctx)(ops:Array Oper)(i:Nat)(o:Oper)(rest:Iy)(ok:Bool)(pend:List bn)(L:Sl)(s:St):Option Bool→Option RX
 |none=>none
 |some false=>lg X ops rest ok (⟨i,o, .tup [],none⟩::pend) (bO o.dst (.tup []) L) s
 |some true=>ryK X ops i o rest ok pend L s (dV L o.op)
noncomputable def M9 (X:Ctx)(ops:Array Oper)(i:Nat)(rest:Iy)(ok:Bool)(pend:List bn)(L:Sl)(s:St):Option Oper→Option RX
 |none=>none
 |some o=>ryT X ops i o rest ok pend L s (dG ops L o)
noncomputable def ryB (X:Ctx)(ops:Array Oper)(o:Oper)(m:List Bool)(rest:Iy)(ok:Bool)(pend:List bn)(L:Sl)(s:St):Bool→Option RX
 |false=>none
 |true=>BJ X ops o m ok pend rest L s (lg X ops rest) (opG X o.op (gL L) s)
noncomputable def ryP (X:Ctx)(ops:Array Oper)(o:Oper)(m:List Bool)(rest:Iy)(ok:Bool)(pend:List bn)(L:Sl)(s:St):Bool→Option RX
 |true=>mR X ops m ok pend (bO o.dst (.tup []) L) s (lg X ops rest)
 |false=>none
noncomputable def ryA (X:Ctx)(ops:Array Oper)(o:Oper)(m:List Bool)(rest:Iy)(ok:Bool)(pend:List bn)(L:Sl)(s:St):Option Bool→Option RX
 |none=>none
 |some false=>ryP X ops o m rest ok pend L s (aP X L o)
 |some true=>ryB X ops o m rest ok pend L s (dV L o.op)
noncomputable def MP (X:Ctx)(ops:Array Oper)(m:List Bool)(rest:Iy)(ok:Bool)(pend:List bn)(L:Sl)(s:St):Option Oper→Option RX
 |none=>none
 |some o=>ryA X ops o m rest ok pend L s (dG ops L o)
section
variable {ops:Array Oper}{i:Nat}{o:Oper}{m:List Bool}{rest:Iy}{ok:Bool}{pend:List bn}{L:Sl}{s s':St}{v:AV}{k:Bool→List bn→Sl→St→Option RX}{f:FuncId}{args:List AV}{b:Nat}
theorem MF:lg X ops [] ok pend L s=some (.fin L s):=rfl
theorem LP:lg X ops ((i,none)::rest) ok pend L s=M9 X ops i rest ok pend L s (ops.toList[i]?):=by
 conv=>lhs;unfold lg
 unfold M9 ryT ryK
 cases ops.toList[i]? with
 |none=>rfl
 |some o=>
  simp only
  all_goals cases dG ops L o with
  |none=>rfl
  |some b=>cases b with
   |false=>rfl
   |true=>cases dV L o.op<;>rfl
theorem NF:lg X ops ((i,some m)::rest) ok pend L s=MP X ops m rest ok pend L s (ops.toList[i]?):=by
 conv=>lhs;unfold lg
 unfold MP ryA ryB ryP
 cases ops.toList[i]? with
 |none=>rfl
 |some o=>
  simp only
  all_goals cases dG ops L o with
  |none=>rfl
  |some b=>cases b with
   |false=>cases aP X L o<;>rfl
   |true=>cases dV L o.op<;>rfl
theorem Og:M9 X ops i rest ok pend L s (some o)=ryT X ops i o rest ok pend L s (dG ops L o):=rfl
theorem O7:ryT X ops i o rest ok pend L s (some true)=ryK X ops i o rest ok pend L s (dV L o.op):=rfl
theorem PZ:ryT X ops i o rest ok pend L s (some false)=lg X ops rest ok (⟨i,o, .tup [],none⟩::pend) (bO o.dst (.tup []) L) s:=rfl
theorem PD:ryK X ops i o rest ok pend L s true=nG i o ok pend L s (lg X ops rest) (opG X o.op (gL L) s):=rfl
theorem NK:MP X ops m rest ok pend L s (some o)=ryA X ops o m rest ok pend L s (dG ops L o):=rfl
theorem Pv:ryA X ops o m rest ok pend L s (some true)=ryB X ops o m rest ok pend L s (dV L o.op):=rfl
theorem Px:ryA X ops o m rest ok pend L s (some false)=ryP X ops o m rest ok pend L s (aP X L o):=rfl
theorem PC:ryB X ops o m rest ok pend L s true=BJ X ops o m ok pend rest L s (lg X ops rest) (opG X o.op (gL L) s):=rfl
theorem OE:ryP X ops o m rest ok pend L s true=mR X ops m ok pend (bO o.dst (.tup []) L) s (lg X ops rest):=rfl
noncomputable def tkS (i:Nat)(o:Oper)(ok:Bool)(pend:List bn)(L:Sl)(s:St)(k:Bool→List bn→Sl→St→Option RX)(v:AV):Bool→Option RX
 |true=>k ok (⟨i,o,v,none⟩::pend) (bO o.dst v L) s
 |false=>none
theorem MQ:nG i o ok pend L s k (some (.old v))=tkS i o ok pend L s k v (v.same v):=by
 simp only[nG,tkS]<;>cases v.same v<;>rfl
theorem KX:nG i o ok pend L s k (some (.pure v))=tkS i o ok pend L s k v (v.same v):=by
 simp only[nG,tkS]<;>cases v.same v<;>rfl
theorem Ou:tkS i o ok pend L s k v true=k ok (⟨i,o,v,none⟩::pend) (bO o.dst v L) s:=rfl
theorem NN {x:AB}(h:s.h.get s.nx=none)(h':s'.h.get s.nx=some x):nG i o ok pend L s k (some (.val v s'))=k false (⟨i,o,v,some (s.nx,x)⟩::pend) (bO o.dst v L) s':=by
 simp only[nG,h,h']
theorem ML:BJ X ops o m ok pend rest L s k (some (.old v))=mR X ops m ok pend (bO o.dst v L) s k:=rfl
theorem Kx:BJ X ops o m ok pend rest L s k (some (.pure v))=mR X ops m ok pend (bO o.dst v L) s k:=rfl
theorem Nx:BJ X ops o m ok pend rest L s k (some (.val v s'))=mR X ops m false pend (bO o.dst v L) s' k:=rfl
theorem Lv:BJ X ops o m ok pend rest L s k (some (.call f args))=some (.call o.dst (mask m (pend.map (·.i))) (.fn f) args pend (kx rest (mask m (pend.map (·.i)))) L s):=rfl
theorem N9:BJ X ops o m ok pend rest L s k (some (.pan v))=some (.pan v s):=rfl
noncomputable def ctS (m:List Bool)(pend:List bn)(L:Sl)(s:St)(k:Bool→List bn→Sl→St→Option RX):Bool→Option RX
 |true=>k true (mask m pend) L s
 |false=>none
theorem Qj:mR X ops m true pend L s k=k true (mask m pend) L s:=rfl
theorem NZ:mR X ops m false pend L s k=ctS m pend L s k ((mask m pend).all (aC X ops L s)):=by
 simp only[mR,ctS]<;>cases(mask m pend).all (aC X ops L s)<;>rfl
theorem Pw:ctS m pend L s k true=k true (mask m pend) L s:=rfl
end
theorem az {k j:Nat}{v:AV}{L:Sl}:lk ((k,v)::L) j=if k=j then some v else lk L j:=by
 simp only[lk]
 by_cases h:k=j
 ·rw[if_pos h,Nat.beq_eq.mpr h]
 ·rw[if_neg h]
  cases hb:Nat.beq k j with
  |false=>rfl
  |true=>exact absurd (Nat.beq_eq.mp hb) h
theorem Dw {n:Int}(h: -9223372036854775808≤n)(h':n≤9223372036854775807):wr .i64 n=n:=by
 unfold wr fits
 cases n with
 |ofNat m=>simp only;rw[show Nat.blt m 9223372036854775808=true from Nat.blt_eq.mpr (by simp at h';omega)]
 |negSucc m=>simp only;rw[show Nat.blt m 9223372036854775808=true from Nat.blt_eq.mpr (by omega)]
theorem vV {n:Int}(h:0≤n)(h':n<18446744073709551616):wr .u64 n=n:=by
 unfold wr fits
 cases n with
 |ofNat m=>simp only;rw[show Nat.blt m 18446744073709551616=true from Nat.blt_eq.mpr (by simp at h';omega)]
 |negSucc m=>omega
theorem Ox {n:Int}(h:0≤n)(h':n<256):wr .u8 n=n:=by
 unfold wr fits
 cases n with
 |ofNat m=>simp only;rw[show Nat.blt m 256=true from Nat.blt_eq.mpr (by simp at h';omega)]
 |negSucc m=>omega
theorem zl {n:Int}(h:0≤n)(h':n<4294967296):wr .u32 n=n:=by
 unfold wr fits
 cases n with
 |ofNat m=>simp only;rw[show Nat.blt m 4294967296=true from Nat.blt_eq.mpr (by simp at h';omega)]
 |negSucc m=>omega
theorem zv (k:IntKind)(n:Int):wr k n=k.wrap n:=by
 unfold wr
 cases h:fits k n with
 |true=>exact(iS h).symm
 |false=>rfl
theorem PQ {t:TypeId}{c:Bool}{k:IntKind}{a b:Int}:aW X .add t c (.int k a) (.int k b)=some (.int k (wr k (a+b))):=by simp[aW,gh,kM]
theorem Py {t:TypeId}{c:Bool}{k:IntKind}{a b:Int}:aW X .sub t c (.int k a) (.int k b)=some (.int k (wr k (a- b))):=by simp[aW,gh,kM]
theorem OI {t:TypeId}{c:Bool}{k:IntKind}{a b:Int}:aW X .mul t c (.int k a) (.int k b)=some (.int k (wr k (a*b))):=by simp[aW,gh,kM]
theorem Ps {t:TypeId}{c:Bool}{k:IntKind}{a b:Int}:aW X .eql t c (.int k a) (.int k b)=some (.bool (decide (a=b))):=by simp[aW,gh,kM]
theorem PK {t:TypeId}{c:Bool}{k:IntKind}{a b:Int}:aW X .neq t c (.int k a) (.int k b)=some (.bool (!decide (a=b))):=by simp[aW,gh,kM]
theorem O3 {t:TypeId}{c:Bool}{k:IntKind}{a b:Int}:aW X .lss t c (.int k a) (.int k b)=some (.bool (decide (a<b))):=by simp[aW,gh,kM]
theorem O0 {t:TypeId}{c:Bool}{k:IntKind}{a b:Int}:aW X .leq t c (.int k a) (.int k b)=some (.bool (decide (a≤b))):=by simp[aW,gh,kM]
theorem PB {t:TypeId}{c:Bool}{k:IntKind}{a b:Int}:aW X .gtr t c (.int k a) (.int k b)=some (.bool (decide (b<a))):=by simp[aW,gh,kM]
theorem OJ {t:TypeId}{c:Bool}{k:IntKind}{a b:Int}:aW X .geq t c (.int k a) (.int k b)=some (.bool (decide (b≤a))):=by simp[aW,gh,kM]
theorem M5 {t:TypeId}{c:Bool}{k j:IntKind}{a:Int}:aW X .shr t c (.int k a) (.int j 1)=some (.int k (a/2)):=by
 have:min (1:Int).toNat k.bits=1:=by cases k<;>rfl
 have e:a.fdiv 2=a/2:=by rw[Int.fdiv_eq_ediv];simp
 have this':min 1 k.bits=1:=by cases k<;>rfl
 simp[aW,gh,oM,this',e]
theorem Ms {a b:TypeId}{d:TypeDesc}{k j:IntKind}{n:Int}{s:St}(ha:X.und a=some d)(hb:X.und b=some (.int k)):bH X a b (.int j n) s=some (.pure (.int k (wr k n))):=by simp only[bH,ha,hb]
theorem PM {k j:IntKind}{a b:Int}:EW [.int k a, .int j b]=some (.int k (if a<b then b else a)):=rfl
theorem O5 {k j:IntKind}{a b:Int}:E6 [.int k a, .int j b]=some (.int k (if b<a then b else a)):=rfl
theorem OC {t:TypeId}{c:Bool}{a b:Str}:aW X .eql t c (.str a) (.str b)=some (.bool (a.beq b)):=rfl
theorem O2 {t:TypeId}{c:Bool}{a b:Str}:aW X .neq t c (.str a) (.str b)=some (.bool (!a.beq b)):=rfl
theorem OV {t:TypeId}{c:Bool}{a b:Str}:aW X .lss t c (.str a) (.str b)=some (.bool (a.lt b)):=rfl
theorem Pt {t:TypeId}{c:Bool}{a b:Str}:aW X .leq t c (.str a) (.str b)=some (.bool (a.lt b||a.beq b)):=rfl
theorem Pk {t:TypeId}{c:Bool}{a b:Str}:aW X .gtr t c (.str a) (.str b)=some (.bool (!(a.lt b||a.beq b))):=rfl
theorem PJ {t:TypeId}{c:Bool}{a b:Str}:aW X .geq t c (.str a) (.str b)=some (.bool (!a.lt b)):=rfl
theorem Gt {t:TypeId}{c:Bool}{a b:Str}(h:a.len+b.len≤9223372036854775807):aW X .add t c (.str a) (.str b)=some (.str (a.cat b)):=by
 show Bj .add a b=_
 simp only[Bj]
 rw[if_pos (Nat.ble_eq.mpr h)]
theorem P5 {b:Bool}:F2 .not (.bool b)=some (.bool (!b)):=rfl
theorem qn {t:TypeId}{e:TypeId}{c:Bool}(h:X.und t=some (.pointer e)){a:Nat×Nat}:aW X .eql t c (.ptr (some a)) (.ptr none)=some (.bool false):=by
 show(match je X 20 t (.ptr (some a)) (.ptr none) with|some b=>some (AV.bool b)|none=>none)=_
 simp only[je,h]
theorem MA {t:TypeId}{e:TypeId}{c:Bool}(h:X.und t=some (.slice e)){a:Nat×Nat×Nat}{n m:Nat}{x:Bool}{n' m':Nat}{x':Bool}:aW X .eql t c (.slc (some a) n m x) (.slc none n' m' x')=some (.bool false):=by
 show(match je X 20 t (.slc (some a) n m x) (.slc none n' m' x') with|some b=>some (AV.bool b)|none=>none)=_
 simp only[je,h]
theorem Nj {t:TypeId}{e:TypeId}{c:Bool}(h:X.und t=some (.slice e)){a:Option (Nat×Nat×Nat)}{n m:Nat}{x:Bool}{n' m':Nat}{x':Bool}:aW X .eql t c (.slc none n m x) (.slc a n' m' x')=some (.bool a.isNone):=by
 show(match je X 20 t (.slc none n m x) (.slc a n' m' x') with|some b=>some (AV.bool b)|none=>none)=_
 simp only[je,h]
theorem OQ {t:TypeId}{c:Bool}{a b:Bool}(h:X.und t=some .bool):aW X .eql t c (.bool a) (.bool b)=some (.bool (a==b)):=by
 show(match je X 20 t (.bool a) (.bool b) with|some b=>some (AV.bool b)|none=>none)=_
 simp only[je,h]
theorem PS {t:TypeId}{c:Bool}{xs ys:List AV}{r:Bool}(h:je X 20 t (.agg xs) (.agg ys)=some r):aW X .eql t c (.agg xs) (.agg ys)=some (.bool r):=by
 show(match je X 20 t (.agg xs) (.agg ys) with|some b=>some (AV.bool b)|none=>none)=_
 rw[h]
theorem Jo {f:Nat}{t:TypeId}{a b:Str}(h:X.und t=some .string):je X (f+1) t (.str a) (.str b)=some (a.beq b):=by simp only[je,h]
theorem wF {f:Nat}{t:TypeId}{k j:IntKind}{a b:Int}(h:X.und t=some (.int k)):je X (f+1) t (.int j a) (.int j b)=some (decide (a=b)):=by simp only[je,h,if_true]
theorem Bn {f:Nat}{t:TypeId}{fs:Array Field}{xs ys:List AV}(h:X.und t=some (.struct fs))(he:dx t X.eqs=true):je X (f+1) t (.agg xs) (.agg ys)=eqFields X (je X f) xs ys fs.toList:=by simp only[je,h,he]
theorem Lt {eq:TypeId→AV→AV→Option Bool}{xs ys:List AV}:eqFields X eq xs ys []=some true:=rfl
theorem rJ {eq:TypeId→AV→AV→Option Bool}{xs ys:List AV}{fd:Field}{fds:List Field}{a b:AV}{r:Bool}(hn:fd.name≠ "_")(ha:partAt X fd.type xs fd.offset=some a)(hb:partAt X fd.type ys fd.offset=some b)(he:eq fd.type a b=some r):eqFields X eq xs ys (fd::fds)=if r=true then eqFields X eq xs ys fds else some false:=by
 rw[eqFields,if_neg hn]
 simp only[ha,hb,he]
 cases r<;>rfl
theorem jQ {t:TypeId}{d:TypeDesc}{n off:Nat}{cs:List AV}(hu:X.und t=some d)(hd:m9 d=false)(hn:X.size t=some n):partAt X t cs off=cs[off]? :=by simp only[partAt,hu,hn,hd]
theorem OX {α:Type}(l:List α):l.toArray.toList=l:=rfl
theorem Pl:(true==true)=true:=rfl
theorem PG:(false==true)=false:=rfl
theorem P9:(true==false)=false:=rfl
theorem Pn:(false==false)=true:=rfl
theorem Is {a b:AV}:qA (.bool true) a b=some (.old a):=rfl
theorem GI {a b:AV}:qA (.bool false) a b=some (.old b):=rfl
theorem bN {a:Nat×Nat}:uq (.ptr (some a))=some (.old (.ptr (some a))):=rfl
theorem NC {f:FuncId}{a b:List AV}:uq (.func (.func f) a b)=some (.old (.func (.func f) a b)):=rfl
theorem MV {b:Nat}:uq (.yld b)=some (.old (.yld b)):=rfl
theorem aT {α:Type}{t:Tr α}{k j:Nat}{v:α}(h:j≠k):(t.put k v).get j=t.get j:=by rw[Tr.cV,if_neg h]
theorem bm {α:Type}{t:Tr α}{k:Nat}{v:α}:(t.put k v).get k=some v:=by rw[Tr.cV,if_pos rfl]
theorem jP {α:Type}{t:Tr α}{k j:Nat}(h:j≠k):(t.del k).get j=t.get j:=Tr.vq h
theorem iF {s:St}{c:Tr AV}{n:Nat}:s.jU c n=(s.nx,{s with h:=s.h.put s.nx (.cells c n),nx:=s.nx+1}):=by simp[St.jU,St.new]
theorem zd {s:St}{b:Nat}{c:Tr AV}{n:Nat}:s.q7 b c n={s with h:=s.h.put b (.cells c n)}:=by simp[St.q7]
theorem Cn {s:St}{b:Nat}{es:List (AV×AV)}:s.xI b es={s with h:=s.h.put b (.map es)}:=by simp[St.xI]
theorem fv {s:St}{b:Nat}{c:Tr AV}{n:Nat}(h:s.h.get b=some (.cells c n)):s.cells b=some (c,n):=by unfold St.cells;rw[h]
theorem ml {α:Type}(l:List α)(j:Nat):(Tr.of l).get j=l[j]? :=dF l j
theorem ld1 {c:Tr AV}{i n:Nat}{v:AV}{l:List AV}(h:c.get i=some v)(hl:ldL c (i+1) n=some l):ldL c i (n+1)=some (v::l):=by simp only[ldL,h,hl]
theorem ah {t:TypeId}{d:TypeDesc}{n b off m:Nat}{c:Tr AV}{v:AV}{s:St}(hu:X.und t=some d)(hd:m9 d=false)(hn:X.size t=some n)(hb:s.h.get b=some (.cells c m))(hv:c.get off=some v):aO X t (.ptr (some (b,off))) s=some (.old v):=by
 simp only[aO,loadT,fv hb,hu,hn,hd,hv,tf]
theorem cE {t:TypeId}{d:TypeDesc}{n b off m:Nat}{c:Tr AV}{l:List AV}{s:St}(hu:X.und t=some d)(hd:m9 d=true)(hn:X.size t=some n)(hb:s.h.get b=some (.cells c m))(hl:ldL c off n=some l):aO X t (.ptr (some (b,off))) s=some (.old (.agg l)):=by
 simp only[aO,loadT,fv hb,hu,hn,hd,hl,tf]
theorem eY {t:TypeId}{n b off m:Nat}{c c':Tr AV}{v:AV}{s:St}(hn:X.size t=some n)(hb:s.h.get b=some (.cells c m))(hl:v.cells.length=n)(ho:aX v.cells=true)(hs:stL v.cells off c=some c'):cK X t (.ptr (some (b,off))) v s=some (.val (.tup []) {s with h:=s.h.put b (.cells c' m)}):=by
 simp only[cK,storeT,fv hb,hn,ho,show Nat.beq v.cells.length n=true from by rw[hl];exact Nat.beq_refl n,hs,zd]
theorem oN {cs:List AV}{s:St}(h:aX cs=true):dO cs s=some (.val (.ptr (some (s.nx,0))) {s with h:=s.h.put s.nx (.cells (Tr.of cs) cs.length),nx:=s.nx+1}):=by
 simp only[dO,h,iF]
theorem bQ {t:TypeId}{z:AV}{s:St}(hz:X.zero t=some z)(h:aX z.cells=true):ja X t s=some (.val (.ptr (some (s.nx,0))) {s with h:=s.h.put s.nx (.cells (Tr.of z.cells) z.cells.length),nx:=s.nx+1}):=by
 simp only[ja,hz,oN h]
theorem Gx {t elem n:Nat}{z:AV}{s:St}(hu:X.und t=some (.slice elem))(hn:X.size elem=some n)(hz:X.zero elem=some z)(hl:z.cells.length=n)(h0:0<n):bB X t 0 [] s=some (.val (.slc (some (s.nx,0,n)) 0 0 true) {s with h:=s.h.put s.nx (.cells (Tr.of []) 0),nx:=s.nx+1}):=by
 have h1:(Nat.ble (0*n) 100000&&Nat.beq z.cells.length n&&Nat.blt 0 n)=true:=by
  rw[hl,show Nat.beq n n=true from Nat.beq_refl n,show Nat.blt 0 n=true from Nat.blt_eq.mpr h0,Nat.zero_mul];rfl
 simp only[bB,hu,hn,hz,h1,eG,lR,dc,fE,aX,iF,List.length_nil]
theorem zw {t elem n:Nat}{z v:AV}{s:St}(hu:X.und t=some (.slice elem))(hn:X.size elem=some n)(hz:X.zero elem=some z)(hl:z.cells.length=n)(h0:0<n)(hs:n≤100000)(hv:v.cells.length=n)(ho:aX v.cells=true)(ht:v.one=true∨∃cs,v= .agg cs):bB X t 1 [(0,v)] s=some (.val (.slc (some (s.nx,0,n)) 1 1 true) {s with h:=s.h.put s.nx (.cells (Tr.of v.cells) n),nx:=s.nx+1}):=by
 have h1:(Nat.ble (1*n) 100000&&Nat.beq z.cells.length n&&Nat.blt 0 n)=true:=by
  rw[hl,show Nat.beq n n=true from Nat.beq_refl n,show Nat.blt 0 n=true from Nat.blt_eq.mpr h0,Nat.one_mul,Nat.ble_eq.mpr hs];rfl
 have hset:∀ (l:List AV) (off:Nat) (cs:List AV),off+l.length=cs.length→dB cs off l=cs.take off++l:=by
  intro l
  induction l with
  |nil=>intro off cs h;simp only[dB,List.append_nil];rw[List.take_of_length_le (by simp at h;omega)]
  |cons a l ih=>
   intro off cs h
   simp only[List.length_cons] at h
   simp only[dB]
   rw[ih (off+1) (cs.set off a) (by simp;omega)]
   rw[List.take_succ_eq_append_getElem (by simp;omega)]
   simp[List.take_set_of_le]
 have hc:dB (z.cells++[]) (0*n) v.cells=v.cells:=by
  rw[hset v.cells (0*n) _ (by simp[hl,hv])];simp
 have hf:dc (fun i=>some (i*n,n)) [(0,v)] (z.cells++[])=some v.cells:=by
  have hb:(Nat.beq v.cells.length n&&Nat.ble (0*n+n) (z.cells++[]).length)=true:=by
   rw[hv,show Nat.beq n n=true from Nat.beq_refl n,Nat.ble_eq.mpr (by simp[hl])];rfl
  have hne:v≠ .top:=by
   rintro rfl
   rcases ht with h|⟨_,h⟩
   ·cases h
   ·cases h
  simp only[dc,hb,if_true,hc]
 simp only[bB,hu,hn,hz,h1,eG,lR,hf,fE,ho,iF,hv]
theorem nW {t elem:Nat}{z:AV}{s:St}{a:Option (Nat×Nat×Nat)}{n c:Nat}{x:Bool}(hu:X.und t=some (.slice elem))(hn:X.size elem=some 1)(hz:X.zero elem=some z)(hl:z.cells.length=1):bB X t 1 [(0, .slc a n c x)] s=some (.val (.slc (some (s.nx,0,1)) 1 1 true) {s with h:=s.h.put s.nx (.cells (Tr.of [.slc a n c x]) 1),nx:=s.nx+1}):=
 zw hu hn hz hl (by decide) (by decide) rfl rfl (.inl rfl)
theorem CE {t elem:Nat}{z:AV}{s:St}{v:Str}(hu:X.und t=some (.slice elem))(hn:X.size elem=some 1)(hz:X.zero elem=some z)(hl:z.cells.length=1):bB X t 1 [(0, .str v)] s=some (.val (.slc (some (s.nx,0,1)) 1 1 true) {s with h:=s.h.put s.nx (.cells (Tr.of [.str v]) 1),nx:=s.nx+1}):=
 zw hu hn hz hl (by decide) (by decide) rfl rfl (.inl rfl)
theorem vS {t elem:Nat}{z:AV}{s:St}{k:IntKind}{v:Int}(hu:X.und t=some (.slice elem))(hn:X.size elem=some 1)(hz:X.zero elem=some z)(hl:z.cells.length=1):bB X t 1 [(0, .int k v)] s=some (.val (.slc (some (s.nx,0,1)) 1 1 true) {s with h:=s.h.put s.nx (.cells (Tr.of [.int k v]) 1),nx:=s.nx+1}):=
 zw hu hn hz hl (by decide) (by decide) rfl rfl (.inl rfl)
theorem jF {t elem n:Nat}{z:AV}{s:St}{cs:List AV}(hu:X.und t=some (.slice elem))(hn:X.size elem=some n)(hz:X.zero elem=some z)(hl:z.cells.length=n)(h0:0<n)(hs:n≤100000)(hc:cs.length=n)(ho:aX cs=true):bB X t 1 [(0, .agg cs)] s=some (.val (.slc (some (s.nx,0,n)) 1 1 true) {s with h:=s.h.put s.nx (.cells (Tr.of cs) n),nx:=s.nx+1}):=
 zw hu hn hz hl h0 hs hc ho (.inr ⟨cs,rfl⟩)
theorem Kw {a:Option (Nat×Nat×Nat)}{n c:Nat}{x:Bool}{s:St}:dY (.slc a n c x) s=some (.val (.ptr (some (s.nx,0))) {s with h:=s.h.put s.nx (.cells (Tr.of [.slc a n c x]) 1),nx:=s.nx+1}):=by simp only[dY];exact oN rfl
theorem LF {v:Str}{s:St}:dY (.str v) s=some (.val (.ptr (some (s.nx,0))) {s with h:=s.h.put s.nx (.cells (Tr.of [.str v]) 1),nx:=s.nx+1}):=by simp only[dY];exact oN rfl
theorem Kk {k:IntKind}{n:Int}{s:St}:dY (.int k n) s=some (.val (.ptr (some (s.nx,0))) {s with h:=s.h.put s.nx (.cells (Tr.of [.int k n]) 1),nx:=s.nx+1}):=by simp only[dY];exact oN rfl
theorem Jt {b:Bool}{s:St}:dY (.bool b) s=some (.val (.ptr (some (s.nx,0))) {s with h:=s.h.put s.nx (.cells (Tr.of [.bool b]) 1),nx:=s.nx+1}):=by simp only[dY];exact oN rfl
theorem Lh {a:Option (Nat×Nat)}{s:St}:dY (.ptr a) s=some (.val (.ptr (some (s.nx,0))) {s with h:=s.h.put s.nx (.cells (Tr.of [.ptr a]) 1),nx:=s.nx+1}):=by simp only[dY];exact oN rfl
theorem L2 {a:Option Nat}{s:St}:dY (.map a) s=some (.val (.ptr (some (s.nx,0))) {s with h:=s.h.put s.nx (.cells (Tr.of [.map a]) 1),nx:=s.nx+1}):=by simp only[dY];exact oN rfl
theorem GP {f:Fn}{a b:List AV}{s:St}:dY (.func f a b) s=some (.val (.ptr (some (s.nx,0))) {s with h:=s.h.put s.nx (.cells (Tr.of [.func f a b]) 1),nx:=s.nx+1}):=by simp only[dY];exact oN rfl
theorem cX {cs:List AV}{s:St}(h:aX cs=true):dY (.agg cs) s=some (.val (.ptr (some (s.nx,0))) {s with h:=s.h.put s.nx (.cells (Tr.of cs) cs.length),nx:=s.nx+1}):=by simp only[dY];exact oN h
theorem aQ {t elem:TypeId}{b off es n c m:Nat}{x:Bool}{k:IntKind}{i:Int}(hu:X.und t=some (.slice elem))(hm:X.size elem=some m)(h0:0≤i)(hi:i<(n:Int)):fh X t (.slc (some (b,off,es)) n c x) (.int k i)=some (.pure (.ptr (some (b,off+i.toNat*m)))):=by
 obtain⟨j,rfl⟩:=Int.eq_ofNat_of_zero_le h0
 show fh X t _ (.int k (.ofNat j))=_
 simp only[fh,hu,tA,hm]
 rw[show Nat.blt j n=true from Nat.blt_eq.mpr (by omega)]
 rfl
theorem BP {t:TypeId}{v:Str}{k:IntKind}{i:Int}(hu:X.und t=some .string)(h0:0≤i)(hi:i<(v.len:Int)):mL X t (.str v) (.int k i)=some (.pure (.int .u8 (v.at i.toNat))):=by
 obtain⟨j,rfl⟩:=Int.eq_ofNat_of_zero_le h0
 show mL X t _ (.int k (.ofNat j))=_
 simp only[mL,hu]
 rw[show Nat.blt j v.len=true from Nat.blt_eq.mpr (by omega)]
 rfl
theorem aJ {t:TypeId}{a:Str}{s:St}(hu:X.und t=some .string):oU X t (.str a) s=some (.int .i64 a.len):=by simp only[oU,hu]
theorem il {t e:TypeId}{a:Option (Nat×Nat×Nat)}{n c:Nat}{x:Bool}{s:St}(hu:X.und t=some (.slice e)):oU X t (.slc a n c x) s=some (.int .i64 n):=by simp only[oU,hu]
theorem mf {k:IntKind}{i:Int}{y:Nat}(h0:0≤i)(hi:i≤(y:Int)):kR (.int k i) y=some i.toNat:=by
 obtain⟨j,rfl⟩:=Int.eq_ofNat_of_zero_le h0
 show kR (.int k (.ofNat j)) y=_
 simp only[kR]
 rw[if_pos (Nat.ble_eq.mpr (by omega))]
 rfl
end
theorem Str.nM {a b:Str}(h:a.beq b=true):a=b:=by
 obtain⟨l,v⟩:=a
 obtain⟨m,u⟩:=b
 simp only[Str.beq,Bool.and_eq_true,Nat.beq_eq] at h
 rw[h.1,h.2]
theorem Str.fT (a:Str):a.beq a=true:=by simp only[Str.beq,Bool.and_eq_true,Nat.beq_eq,and_self]
theorem Str.beq_false {a b:Str}:a.beq b=false↔a≠b:=by
 cases h:a.beq b with
 |true=>exact⟨fun e=>(by cases e),fun e=>absurd (Str.nM h) e⟩
 |false=>exact⟨fun _ e=>(by rw[e,Str.fT] at h;cases h),fun _=>rfl⟩
structure Up (s t:St):Prop where
 nx:s.nx≤t.nx
 old:∀b,b<s.nx→t.h.get b=s.h.get b
 gl:t.gl=s.gl
def Tidy (s:St):Prop:=∀b,s.nx≤b→s.h.get b=none
theorem Up.refl (s:St):Up s s:=⟨Nat.le_refl _,fun _ _=>rfl,rfl⟩
theorem Up.trans {s t u:St}(h:Up s t)(h':Up t u):Up s u:=⟨Nat.le_trans h.nx h'.nx,fun b hb=>(h'.old b (Nat.lt_of_lt_of_le hb h.nx)).trans (h.old b hb),h'.gl.trans h.gl⟩
theorem Up.put {s t:St}(h:Up s t){b:Nat}{x:AB}(hb:s.nx≤b):Up s {t with h:=t.h.put b x}:=⟨h.nx,fun c hc=>by show(t.h.put b x).get c=_;rw[aT (by omega)];exact h.old c hc,h.gl⟩
theorem Up.new {s t:St}(h:Up s t){x:AB}:Up s {t with h:=t.h.put t.nx x,nx:=t.nx+1}:=⟨Nat.le_succ_of_le h.nx,fun c hc=>by show(t.h.put t.nx x).get c=_;rw[aT (by have:=h.nx;omega)];exact h.old c hc,h.gl⟩
theorem Tidy.new {t:St}(h:Tidy t){x:AB}:Tidy {t with h:=t.h.put t.nx x,nx:=t.nx+1}:=fun b hb=>by
 show(t.h.put t.nx x).get b=none
 have hb:t.nx+1≤b:=hb
 rw[aT (by omega)];exact h b (by omega)
theorem Tidy.put {t:St}(h:Tidy t){b:Nat}{x:AB}(hb:b<t.nx):Tidy {t with h:=t.h.put b x}:=fun c hc=>by
 show(t.h.put b x).get c=none
 have hc:t.nx≤c:=hc
 rw[aT (by omega)];exact h c hc
structure Sli (s:St)(v:AV)(es:Nat)(rows:List (List AV)):Prop where
 ex:∃a c x,v= .slc a rows.length c x∧(rows≠[]→∃b off t n,a=some (b,off,es)∧b<s.nx∧s.h.get b=some (.cells t n)∧∀i r,rows[i]? =some r→ldL t (off+i*es) es=some r)
theorem Sli.up {s t:St}{v:AV}{es:Nat}{rows:List (List AV)}(h:Sli s v es rows)(hu:Up s t):Sli t v es rows:=by
 obtain⟨a,c,x,h1,h2⟩:=h.ex
 refine⟨a,c,x,h1,fun hn=>?_⟩
 obtain⟨b,off,tr,n,k1,k2,k3,k4⟩:=h2 hn
 exact⟨b,off,tr,n,k1,Nat.lt_of_lt_of_le k2 hu.nx,(hu.old b k2).trans k3,k4⟩
end Go.Am
end
section
namespace Go.Am
theorem aR {c:Tr AV}:∀ {n off:Nat} {l:List AV},ldL c off n=some l↔l.length=n∧∀i u,l[i]? =some u→c.get (off+i)=some u
 |0,off,l=>by
  simp only[ldL,Option.some.injEq]
  constructor
  ·rintro rfl;simp
  ·rintro⟨h,_⟩;exact(List.eq_nil_of_length_eq_zero h).symm
 |n+1,off,l=>by
  simp only[ldL]
  constructor
  ·intro h
   split at h
   ·rename_i v hv
    split at h
    ·rename_i m hm
     cases h
     obtain⟨h1,h2⟩:=aR.mp hm
     refine⟨by simp[h1],fun i u hi=>?_⟩
     cases i with
     |zero=>simp at hi;subst hi;exact hv
     |succ i=>simp at hi;rw[show off+(i+1)=off+1+i by omega];exact h2 i u hi
    ·cases h
   ·cases h
  ·rintro⟨h1,h2⟩
   match l,h1 with
   |v::m,h1=>
    have hv:=h2 0 v rfl
    have hm:ldL c (off+1) n=some m:=aR.mpr ⟨by simpa using h1,fun i u hi=>by
     have:=h2 (i+1) u (by simpa using hi)
     rw[show off+(i+1)=off+1+i by omega] at this;exact this⟩
    simp only[Nat.add_zero] at hv
    rw[hv,hm]
theorem eT {c:Tr AV}{n off:Nat}{l:List AV}(h:ldL c off n=some l):l.length=n:=(aR.mp h).1
theorem iE {c:Tr AV}{a b off:Nat}{l m:List AV}(h:ldL c off a=some l)(h':ldL c (off+a) b=some m):ldL c off (a+b)=some (l++m):=by
 obtain⟨h1,h2⟩:=aR.mp h
 obtain⟨h3,h4⟩:=aR.mp h'
 refine aR.mpr ⟨by simp[h1,h3],fun i u hi=>?_⟩
 by_cases e:i<l.length
 ·rw[List.getElem?_append_left e] at hi;exact h2 i u hi
 ·rw[List.getElem?_append_right (by omega)] at hi
  have:=h4 _ u hi
  rwa [show off+a+(i- l.length)=off+i by omega] at this
theorem sd {c:Tr AV}{es:Nat}:∀ {rows:List (List AV)} {off:Nat},(∀i r,rows[i]? =some r→ldL c (off+i*es) es=some r)→ldL c off (rows.length*es)=some rows.flatten
 |[],off,_=>by simp[ldL]
 |r::rows,off,h=>by
  have h0:=h 0 r rfl
  have ht:=sd (rows:=rows) (off:=off+es) fun i r' hi=>by
   have:=h (i+1) r' (by simpa using hi)
   rwa [show off+(i+1)*es=off+es+i*es by rw[Nat.add_mul];omega] at this
  simp only[Nat.zero_mul,Nat.add_zero] at h0
  have:=iE h0 ht
  rw[List.length_cons,Nat.add_mul,Nat.one_mul,Nat.add_comm (rows.length*es) es]
  simpa using this
theorem dN {es:Nat}:∀ {rows:List (List AV)},(∀r∈rows,r.length=es)→rows.flatten.length=rows.length*es
 |[],_=>by simp
 |r::rows,h=>by rw[List.flatten_cons,List.length_append,h r (by simp),dN (rows:=rows) fun r hr=>h r (by simp[hr]),List.length_cons,Nat.add_mul];omega
theorem gD {c:Tr AV}{es off:Nat}{rows:List (List AV)}(hl:∀r∈rows,r.length=es)(h:ldL c off (rows.length*es)=some rows.flatten):∀i r,rows[i]? =some r→ldL c (off+i*es) es=some r:=by
 induction rows generalizing off with
 |nil=>intro i r hi;simp at hi
 |cons a rows ih=>
  have ha:a.length=es:=hl a (by simp)
  obtain⟨h1,h2⟩:=aR.mp h
  intro i r hi
  cases i with
  |zero=>
   simp at hi;subst hi
   refine aR.mpr ⟨ha,fun j u hj=>?_⟩
   have hlt:j<a.length:=(List.getElem?_eq_some_iff.mp hj).1
   have:=h2 j u (by simp[List.flatten_cons,List.getElem?_append_left hlt,hj])
   simpa using this
  |succ i=>
   simp at hi
   have ht:ldL c (off+es) (rows.length*es)=some rows.flatten:=aR.mpr ⟨dN fun r hr=>hl r (by simp[hr]),fun j u hj=>by
    have:=h2 (es+j) u (by rw[List.flatten_cons,List.getElem?_append_right (by omega),ha];simpa using hj)
    rwa [show off+(es+j)=off+es+j by omega] at this⟩
   have:=ih (fun r hr=>hl r (by simp[hr])) ht i r hi
   rwa [show off+es+i*es=off+(i+1)*es by rw[Nat.add_mul];omega] at this
theorem jK {l:List AV}{off n:Nat}{m:List AV}(h:(l.drop off).take n=m)(hn:m.length=n):ldL (Tr.of l) off n=some m:=by
 refine aR.mpr ⟨hn,fun i u hi=>?_⟩
 rw[dF]
 subst h
 rw[List.getElem?_take] at hi
 split at hi
 ·simpa using hi
 ·cases hi
theorem lB {c c':Tr AV}:∀ {l:List AV} {off:Nat},stL l off c=some c'→∀j,c'.get j=if off≤j∧j<off+l.length then l[j- off]? else c.get j
 |[],off,h,j=>by
  cases h
  rw[if_neg (by simp only[List.length_nil];omega)]
 |v::l,off,h,j=>by
  simp only[stL] at h
  split at h
  ·simp only[tK,kH] at h
   rw[lB h j]
   by_cases e:j=off
   ·subst e
    rw[if_neg (by omega),if_pos (by simp),Tr.cV,if_pos rfl];simp
   ·by_cases e2:off+1≤j∧j<off+1+l.length
    ·rw[if_pos e2,if_pos (by simp;omega),show j- off=(j- (off+1))+1 by omega];simp
    ·rw[if_neg e2,if_neg (by simp;omega),Tr.cV,if_neg e]
  ·cases h
theorem ia {c:Tr AV}:∀ {l:List AV} {off:Nat},(∀j,j<l.length→∃u,c.get (off+j)=some u)→∃c',stL l off c=some c'
 |[],off,_=>⟨c,rfl⟩
 |v::l,off,h=>by
  obtain⟨u,hu⟩:=h 0 (by simp)
  obtain⟨c',hc⟩:=ia (c:=c.put off v) (l:=l) (off:=off+1) fun j hj=>by
   obtain⟨u,hu⟩:=h (j+1) (by simp;omega)
   exact⟨u,by rw[Tr.cV,if_neg (by omega),show off+1+j=off+(j+1) by omega];exact hu⟩
  refine⟨c',?_⟩
  simp only[Nat.add_zero] at hu
  simp only[stL,hu,tK,kH]
  exact hc
structure Mod (B:Nat→Prop)(s t:St):Prop where
 nx:s.nx≤t.nx
 old:∀b,b<s.nx→¬B b→t.h.get b=s.h.get b
 gl:t.gl=s.gl
 tidy:Tidy s→Tidy t
theorem Mod.refl (B:Nat→Prop)(s:St):Mod B s s:=⟨Nat.le_refl _,fun _ _ _=>rfl,rfl,id⟩
theorem Mod.mono {B C:Nat→Prop}{s t:St}(h:Mod B s t)(hB:∀b,b<s.nx→B b→C b):Mod C s t:=⟨h.nx,fun b hb hc=>h.old b hb fun h=>hc (hB b hb h),h.gl,h.tidy⟩
theorem Mod.trans {B C:Nat→Prop}{s t u:St}(h:Mod B s t)(h':Mod C t u)(hC:∀b,b<s.nx→C b→B b):Mod B s u:=
 ⟨Nat.le_trans h.nx h'.nx,fun b hb hn=>(h'.old b (Nat.lt_of_lt_of_le hb h.nx) fun hc=>hn (hC b hb hc)).trans (h.old b hb hn),h'.gl.trans h.gl,fun ht=>h'.tidy (h.tidy ht)⟩
def No:Nat→Prop:=fun _=>False
theorem Mod.new {B:Nat→Prop}{s t:St}(h:Mod B s t)(x:AB):Mod B s {t with h:=t.h.put t.nx x,nx:=t.nx+1}:=
 ⟨Nat.le_succ_of_le h.nx,fun b hb hn=>by show(t.h.put t.nx x).get b=_;rw[aT (by have:=h.nx;omega)];exact h.old b hb hn,h.gl,fun ht=>(h.tidy ht).new⟩
theorem Mod.put {B:Nat→Prop}{s t:St}(h:Mod B s t){b:Nat}(x:AB)(hb:s.nx≤b∨B b)(hlt:b<t.nx):Mod B s {t with h:=t.h.put b x}:=
 ⟨h.nx,fun c hc hn=>by
  show(t.h.put b x).get c=_
  rw[aT (fun e=>by subst e;rcases hb with hb|hb;exact absurd hb (by omega);exact hn hb)];exact h.old c hc hn,h.gl,fun ht=>(h.tidy ht).put hlt⟩
section
variable {X:Ctx}
theorem dC {t:TypeId}{n b off m x:Nat}{c c':Tr AV}{v:AV}{t0:Tr AB}{g:Tr (Tr AV)}{sh:List Nat}(hn:X.size t=some n)(hl:v.cells.length=n)(ho:aX v.cells=true)(hs:stL v.cells off c=some c'):cK X t (.ptr (some (b,off))) v {h:=t0.put b (.cells c m),nx:=x,gl:=g,sh:=sh}=some (.val (.tup []) {h:=(t0.put b (.cells c m)).put b (.cells c' m),nx:=x,gl:=g,sh:=sh}):=
 eY hn bm hl ho hs
end
theorem ej {cs zs:List AV}(h:cs.length=zs.length):∃c',stL cs 0 (Tr.of zs)=some c'∧∀i u,cs[i]? =some u→c'.get i=some u:=by
 obtain⟨c',hc⟩:=ia (c:=Tr.of zs) (l:=cs) (off:=0) fun j hj=>⟨zs[j]'(by omega),by rw[dF,Nat.zero_add];exact List.getElem?_eq_getElem (by omega)⟩
 refine⟨c',hc,fun i u hi=>?_⟩
 have hlt:=(List.getElem?_eq_some_iff.mp hi).1
 rw[lB hc,if_pos ⟨Nat.zero_le _,by omega⟩]
 exact hi
theorem WL.st {X:Ctx}{O:bj}{c:Code}{L:Sl}{D:List DE}{s:St}{Q:cf}(P:St→Prop)(h:P s)(hW:∀s',P s'→WL X O c L D s' Q):WL X O c L D s Q:=hW s h
def blk:AV→Option Nat
 | .slc (some (b,_,_)) _ _ _=>some b
 | _=>none
theorem Sli.mod {B:Nat→Prop}{s t:St}{v:AV}{es:Nat}{rows:List (List AV)}(h:Sli s v es rows)(hm:Mod B s t)(hb:∀b,blk v=some b→¬B b):Sli t v es rows:=by
 obtain⟨a,c,x,rfl,h2⟩:=h.ex
 refine⟨a,c,x,rfl,fun hn=>?_⟩
 obtain⟨b,off,tr,n,rfl,k2,k3,k4⟩:=h2 hn
 exact⟨b,off,tr,n,rfl,Nat.lt_of_lt_of_le k2 hm.nx,(hm.old b k2 (hb b rfl)).trans k3,k4⟩
theorem Sli.len {s:St}{v:AV}{es:Nat}{rows:List (List AV)}(h:Sli s v es rows):∀r∈rows,r.length=es:=by
 intro r hr
 obtain⟨a,c,x,_,h2⟩:=h.ex
 obtain⟨b,off,t,n,_,_,_,k⟩:=h2 (List.ne_nil_of_mem hr)
 obtain⟨i,hi,e⟩:=List.getElem_of_mem hr
 exact eT (k i r (by rw[←e];exact List.getElem?_eq_getElem hi))
theorem Sli.lt {s:St}{v:AV}{es:Nat}{rows:List (List AV)}(h:Sli s v es rows)(hn:rows≠[]){b:Nat}(hb:blk v=some b):b<s.nx:=by
 obtain⟨a,c,x,rfl,h2⟩:=h.ex
 obtain⟨b',off,t,n,rfl,k2,_,_⟩:=h2 hn
 simp only[blk,Option.some.injEq] at hb;omega
theorem Sli.src {s:St}{v:AV}{es:Nat}{rows:List (List AV)}(h:Sli s v es rows):aZ s es v=some (rows.length,rows.flatten):=by
 obtain⟨a,c,x,rfl,h2⟩:=h.ex
 by_cases hn:rows=[]
 ·subst hn
  cases a with
  |none=>rfl
  |some p=>obtain⟨b,off,e⟩:=p;rfl
 ·obtain⟨b,off,t,n,rfl,k2,k3,k4⟩:=h2 hn
  have hl:rows.length≠0:=fun e=>hn (List.eq_nil_of_length_eq_zero e)
  simp only[aZ,fv k3,sd k4]
  cases hb:Nat.beq rows.length 0 with
  |true=>exact absurd (Nat.beq_eq.mp hb) hl
  |false=>rfl
theorem fm {l:List AV}{i:Nat}{t:Tr AV}{j:Nat}:(Tr.kg l i t).get j=if i≤j∧j<i+l.length then l[j- i]? else t.get j:=by
 by_cases h:i≤j
 ·rw[iG l i t j h]
  by_cases h2:j<i+l.length
  ·rw[if_pos h2,if_pos ⟨h,h2⟩]
  ·rw[if_neg h2,if_neg (fun q=>h2 q.2)]
 ·rw[m3 l i t j (by omega),if_neg (fun q=>h q.1)]
structure Acc (s:St)(v:AV)(es:Nat)(rows:List (List AV)):Prop where
 ex:(v= .slc none 0 0 true∧rows=[])∨∃b x t,v= .slc (some (b,0,es)) rows.length rows.length x∧b<s.nx∧(∃f,s.h.get b=some (.cells t (rows.length*es+f)))∧ldL t 0 (rows.length*es)=some rows.flatten
 len:∀r∈rows,r.length=es
theorem Acc.nil {s:St}{es:Nat}:Acc s (.slc none 0 0 true) es []:=⟨.inl ⟨rfl,rfl⟩,fun _ h=>by simp at h⟩
theorem Acc.sli {s:St}{v:AV}{es:Nat}{rows:List (List AV)}(h:Acc s v es rows):Sli s v es rows:=by
 rcases h.ex with⟨rfl,rfl⟩|⟨b,x,t,rfl,h1,⟨f,h2⟩,h3⟩
 ·exact⟨none,0,true,rfl,fun h=>absurd rfl h⟩
 ·exact⟨_,_,_,rfl,fun _=>⟨b,0,t,_,rfl,h1,h2,gD h.len h3⟩⟩
theorem Acc.mod {B:Nat→Prop}{s t:St}{v:AV}{es:Nat}{rows:List (List AV)}(h:Acc s v es rows)(hm:Mod B s t)(hb:∀b,blk v=some b→¬B b):Acc t v es rows:=by
 refine⟨h.ex.imp id fun⟨b,x,tr,e,h1,⟨f,h2⟩,h3⟩=>⟨b,x,tr,e,Nat.lt_of_lt_of_le h1 hm.nx,⟨f,(hm.old b h1 (hb b (by rw[e];rfl))).trans h2⟩,h3⟩,h.len⟩
theorem Acc.lt {s:St}{v:AV}{es:Nat}{rows:List (List AV)}(h:Acc s v es rows){b:Nat}(hb:blk v=some b):b<s.nx:=by
 rcases h.ex with⟨rfl,rfl⟩|⟨b',x,t,rfl,h1,h2,h3⟩
 ·cases hb
 ·simp only[blk,Option.some.injEq] at hb;omega
section
variable {X:Ctx}
theorem A6 {n:Nat}(h:n≠0):Nat.beq n 0=false:=by
 cases hb:Nat.beq n 0 with
 |false=>rfl
 |true=>exact absurd (Nat.beq_eq.mp hb) h
theorem gG {t elem es:Nat}{s:St}{x y:AV}{rows new:List (List AV)}(hu:X.und t=some (.slice elem))(he:X.elem elem=some es)(hx:Acc s x es rows)(hy:aZ s es y=some (new.length,new.flatten))(hl:∀r∈new,r.length=es)(hn:new≠[])(ha:aX new.flatten=true)(hb:rows.length+new.length≤1000000):
  ∃v s',cN X t x y s=some (.val v s')∧Acc s' v es (rows++new)∧Mod (fun b=>blk x=some b) s s'∧blk v=some s.nx:=by
 have hn0:Nat.beq new.length 0=false:=A6 fun e=>hn (List.eq_nil_of_length_eq_zero e)
 have hl':∀r∈rows++new,r.length=es:=fun r hr=>(List.mem_append.mp hr).elim (hx.len r) (hl r)
 rcases hx.ex with⟨rfl,rfl⟩|⟨b,ex,tr,rfl,h1,⟨f,h2⟩,h3⟩
 ·have hr:Nat.ble (0+new.length) 0=false:=by
   cases hq:Nat.ble (0+new.length) 0 with
   |false=>rfl
   |true=>have:=Nat.ble_eq.mp hq;exact absurd (List.eq_nil_of_length_eq_zero (by omega)) hn
  have hs:Nat.ble (0+new.length) 1000000=true:=Nat.ble_eq.mpr (by simpa using hb)
  refine⟨.slc (some (s.nx,0,es)) new.length new.length false,{s with h:=s.h.put s.nx (.cells (Tr.of new.flatten) new.flatten.length),nx:=s.nx+1},?_,?_,?_,rfl⟩
  ·simp only[cN,hu,he,hy,rS,hn0,ha,hr,hs,kW,iF]
  ·refine⟨.inr ⟨s.nx,false,Tr.of new.flatten,by simp,Nat.lt_succ_self _,?_,?_⟩,hl'⟩
   ·refine⟨0,?_⟩
    show(s.h.put s.nx _).get s.nx=_
    rw[bm,dN hl];rfl
   ·rw[List.nil_append]
    exact jK (by rw[List.drop_zero,List.take_of_length_le (by rw[dN hl];exact Nat.le_refl _)]) (dN hl)
  ·exact(Mod.refl _ s).new _
 ·have hr:Nat.ble (rows.length+new.length) rows.length=false:=by
   cases hq:Nat.ble (rows.length+new.length) rows.length with
   |false=>rfl
   |true=>have:=Nat.ble_eq.mp hq;exact absurd (List.eq_nil_of_length_eq_zero (by omega)) hn
  have hs:Nat.ble (rows.length+new.length) 1000000=true:=Nat.ble_eq.mpr hb
  have hbe:Nat.beq es es=true:=Nat.beq_refl es
  have hcell0:ldL (Tr.kg new.flatten (rows.length*es) tr) 0 ((rows++new).length*es)=some (rows++new).flatten:=by
   rw[List.length_append,Nat.add_mul,List.flatten_append]
   refine iE (aR.mpr ⟨eT h3,fun i u hi=>?_⟩) (aR.mpr ⟨dN hl,fun i u hi=>?_⟩)
   ·have hi':=(List.getElem?_eq_some_iff.mp hi).1
    have hlen:=eT h3
    rw[fm,if_neg (by omega)]
    exact(aR.mp h3).2 i u hi
   ·have hi':=(List.getElem?_eq_some_iff.mp hi).1
    rw[fm,if_pos (by omega),show 0+rows.length*es+i- rows.length*es=i by omega]
    exact hi
  obtain⟨tn,ho,hcell⟩:∃tn,ka 0 rows.length es (rows.length*es+f) tr new.flatten=some tn∧ldL tn 0 ((rows++new).length*es)=some (rows++new).flatten:=by
   cases hq:Nat.beq (rows.length*es+f) (rows.length*es) with
   |true=>exact⟨_,by simp only[ka,h3,show Nat.beq 0 0=true from rfl,hq,Bool.and_self],hcell0⟩
   |false=>exact⟨Tr.of (rows.flatten++new.flatten),by simp only[ka,h3,show Nat.beq 0 0=true from rfl,hq,Bool.and_false],by
     rw[←List.flatten_append]
     exact jK (by rw[List.drop_zero,List.take_of_length_le (by rw[dN hl'];exact Nat.le_refl _)]) (dN hl')⟩
  let s0:St:=match ex with|true=>s|false=>{s with h:=s.h.del b,sh:=s.nx::s.sh}
  have hs0:s0.nx=s.nx:=by cases ex<;>rfl
  have hm0:Mod (fun c=>b=c) s s0:=by
   cases ex with
   |true=>exact Mod.refl _ s
   |false=>
    refine⟨Nat.le_refl _,fun c hc hn=>?_,rfl,fun ht c hc=>?_⟩
    ·show(s.h.del b).get c=_
     rw[jP (fun e=>hn e.symm)]
    ·show(s.h.del b).get c=none
     have hc:s.nx≤c:=hc
     rw[jP (by omega)];exact ht c hc
  refine⟨.slc (some (s.nx,0,es)) (rows.length+new.length) (rows.length+new.length) false,{s0 with h:=s0.h.put s0.nx (.cells tn ((rows.length+new.length)*es+cD (rows.length*es+f))),nx:=s0.nx+1},?_,?_,?_,rfl⟩
  ·simp only[cN,hu,he,hy,rS,hn0,ha,hr,hs,kW,hbe,fv h2,ho,qC,iF]
   cases ex<;>rfl
  ·refine⟨.inr ⟨s.nx,false,tn,by simp,by show s.nx<s0.nx+1;omega,⟨cD (rows.length*es+f),?_⟩,hcell⟩,hl'⟩
   show(s0.h.put s0.nx _).get s.nx=_
   rw[hs0,bm,List.length_append]
  ·exact(hm0.new _).mono fun c _ h=>by simp[blk,h]
theorem vv {t elem es:Nat}{s:St}{a:Option (Nat×Nat×Nat)}{n c:Nat}{x:Bool}{y:AV}{l:List AV}(hu:X.und t=some (.slice elem))(he:X.elem elem=some es)(hy:aZ s es y=some (0,l)):cN X t (.slc a n c x) y s=some (.old (.slc a n c x)):=by
 simp only[cN,hu,he,hy,rS,show Nat.beq 0 0=true from rfl]
theorem fM {t u elem:Nat}{d:TypeDesc}{x y:AV}{s:St}(h:X.und u=some d)(hd:d= .slice elem∨d= .string):j8 X t u x y s=cN X t x y s:=by
 rcases hd with rfl|rfl<;>simp only[j8,h]
theorem qo:∀ {l m:List AV},aX l=true→aX m=true→aX (l++m)=true
 |[],_,_,h=>h
 |v::l,m,h,h'=>by
  simp only[aX,Bool.and_eq_true,List.cons_append] at h ⊢
  exact⟨h.1,qo h.2 h'⟩
theorem tU:∀ {rows:List (List AV)},(∀r∈rows,aX r=true)→aX rows.flatten=true
 |[],_=>rfl
 |r::rows,h=>by rw[List.flatten_cons];exact qo (h r (by simp)) (tU fun r hr=>h r (by simp[hr]))
theorem gB {s:St}{t:Tr AV}{b es n c m:Nat}{x:Bool}{rows:List (List AV)}(hn:rows.length=n)(hl:∀r∈rows,r.length=es)(h:s.h.get b=some (.cells t m))(ht:t=Tr.of rows.flatten):aZ s es (.slc (some (b,0,es)) n c x)=some (rows.length,rows.flatten):=by
 subst hn
 have h3:ldL t 0 (rows.length*es)=some rows.flatten:=by
  subst ht
  exact jK (by rw[List.drop_zero,List.take_of_length_le (by rw[dN hl];exact Nat.le_refl _)]) (dN hl)
 by_cases hn:rows=[]
 ·subst hn;rfl
 ·have hl0:rows.length≠0:=fun e=>hn (List.eq_nil_of_length_eq_zero e)
  simp only[aZ,fv h,h3,A6 hl0]
end
end Go.Am
end
section
namespace Go.Am
def xp (n:Nat):AV→Bool
 | .str _=>true
 | .int _ _=>true
 | .bool _=>true
 | .slc none _ _ _=>true
 | .slc (some (b,_,_)) _ _ _=>Nat.blt b n
 | _=>false
noncomputable def HC (es b k off n i m:Nat)(t:Tr AV)(new:List AV)(s:St):Option CR:=
 match ldL t off (n*es),Nat.ble i n&& (Nat.ble (n+m) 1000000&& (Nat.blt 0 m&&Nat.blt 0 n)) with
 |some old,true=>match(old++new).all (xp s.nx)&&Nat.beq new.length (m*es) with
  |true=>some (.ret (.slc (some (s.nx,0,es)) (n+m) (n+m) false) {s with h:=(s.h.del b).put s.nx (.cells (Tr.of (old.take (i*es)++new++old.drop (i*es))) ((n+m)*es+cD (k+m*es))),nx:=s.nx+1,sh:=s.nx::s.sh})
  |false=>none
 | _,_=>none
noncomputable def Cm (es b k off n i:Nat)(t:Tr AV)(s:St):Option (Nat×List AV)→Option CR
 |some (m,new)=>HC es b k off n i m t new s
 |none=>none
def Ah (es b:Nat):AV→Bool
 | .slc (some (c,0,e)) _ _ _=> !Nat.beq b c&&Nat.beq e es
 | _=>false
noncomputable def vm (s:St):AV→Bool
 | .slc (some (c,_,_)) _ _ _=>match s.h.get c with
  |some (.cells _ k)=>Nat.blt k iM
  | _=>false
 | _=>false
noncomputable def lO (es:Nat):List AV→St→Option CR
 |[.slc (some (b,off,e)) n _ _, .int .i64 (.ofNat i),y],s=>match Nat.beq e es&& (Ah es b y&&vm s y) with
  |true=>match s.h.get b with
   |some (.cells t k)=>Cm es b k off n i t s (aZ s es y)
   | _=>none
  |false=>none
 | _,_=>none
section
variable {X:Ctx}{O:bj}
theorem Hb {f:FuncId}{es:Nat}(ho:O f=some (lO es)){s:St}{b off n c i m c':Nat}{x x':Bool}{t:Tr AV}{k:Nat}{new:List (List AV)}{rows:List (List AV)}{cy k':Nat}
  (hb:s.h.get b=some (.cells t k))(hr:rows.length=n)(hn:rows≠[])(hro:∀i r,rows[i]? =some r→ldL t (off+i*es) es=some r)(hi:i≤n)(hm:new.length=m)(hnew:new≠[])(hle:∀r∈new,r.length=es)(hsum:n+m≤1000000)
  (hlow:(rows.flatten++new.flatten).all (xp s.nx)=true)(hy:s.h.get c'=some (.cells (Tr.of new.flatten) k'))(hk':k'<iM)(hbc:b≠c')(hbs:b<s.nx):
  Ca X O (.fn f) [.slc (some (b,off,es)) n c x, .int .i64 (i:Int), .slc (some (c',0,es)) m cy x'] s fun r=>∃v s',r= .ret v s'∧Acc s' v es (rows.take i++new++rows.drop i)∧Mod (fun d=>d=b) s s'∧blk v=some s.nx:=by
 have hrl:∀r∈rows,r.length=es:=fun r hr=>by
  obtain⟨i,hi,e⟩:=List.getElem_of_mem hr
  exact eT (hro i r (by rw[←e];exact List.getElem?_eq_getElem hi))
 have hold:ldL t off (n*es)=some rows.flatten:=by rw[←hr];exact sd hro
 have hsrc:aZ s es (.slc (some (c',0,es)) m cy x')=some (new.length,new.flatten):=gB hm hle hy rfl
 have hm0:0<m:=by rw[←hm];exact List.length_pos_iff.mpr hnew
 have hn0:0<n:=by rw[←hr];exact List.length_pos_iff.mpr hn
 have htk:(rows.flatten).take (i*es)=(rows.take i).flatten:=by
  have e:=congrArg List.flatten (List.take_append_drop i rows).symm
  rw[List.flatten_append] at e
  rw[e,List.take_left' (by rw[dN fun r hr=>hrl r (List.mem_of_mem_take hr),List.length_take];rw[show min i rows.length=i by omega])]
 have hdr:(rows.flatten).drop (i*es)=(rows.drop i).flatten:=by
  have e:=congrArg List.flatten (List.take_append_drop i rows).symm
  rw[List.flatten_append] at e
  rw[e,List.drop_left' (by rw[dN fun r hr=>hrl r (List.mem_of_mem_take hr),List.length_take];rw[show min i rows.length=i by omega])]
 have hcells:rows.flatten.take (i*es)++new.flatten++rows.flatten.drop (i*es)=(rows.take i++new++rows.drop i).flatten:=by rw[htk,hdr];simp
 have hall:∀r∈rows.take i++new++rows.drop i,r.length=es:=fun r hr=>by
  rcases List.mem_append.mp hr with hr|hr
  ·rcases List.mem_append.mp hr with hr|hr
   ·exact hrl r (List.mem_of_mem_take hr)
   ·exact hle r hr
  ·exact hrl r (List.mem_of_mem_drop hr)
 have hlen:(rows.take i++new++rows.drop i).length=n+m:=by simp;omega
 refine ku ho (r:= .ret (.slc (some (s.nx,0,es)) (n+m) (n+m) false) {s with h:=(s.h.del b).put s.nx (.cells (Tr.of (rows.take i++new++rows.drop i).flatten) ((n+m)*es+cD (k+m*es))),nx:=s.nx+1,sh:=s.nx::s.sh}) ?_ ⟨_,_,rfl,?_,?_,rfl⟩
 ·have h1:(Nat.beq es es&& (Ah es b (.slc (some (c',0,es)) m cy x')&&vm s (.slc (some (c',0,es)) m cy x')))=true:=by
   have hlow:vm s (.slc (some (c',0,es)) m cy x')=true:=by simp only[vm,hy,Nat.blt_eq.mpr hk']
   have:Nat.beq b c'=false:=by
    cases hq:Nat.beq b c' with
    |false=>rfl
    |true=>exact absurd (Nat.beq_eq.mp hq) hbc
   simp[Ah,this,hlow]
  have h2:(Nat.ble i n&& (Nat.ble (n+m) 1000000&& (Nat.blt 0 m&&Nat.blt 0 n)))=true:=by
   rw[Nat.ble_eq.mpr hi,Nat.ble_eq.mpr hsum,Nat.blt_eq.mpr hm0,Nat.blt_eq.mpr hn0];rfl
  have h3:((rows.flatten++new.flatten).all (xp s.nx)&&Nat.beq new.flatten.length (m*es))=true:=by
   rw[hlow,dN hle,hm,show Nat.beq (m*es) (m*es)=true from Nat.beq_refl _];rfl
  show lO es [.slc (some (b,off,es)) n c x, .int .i64 (.ofNat i), .slc (some (c',0,es)) m cy x'] s=_
  simp only[lO,h1,hb,hsrc,Cm,HC,hold,hm,h2,h3,hcells]
 ·refine⟨.inr ⟨s.nx,false,Tr.of (rows.take i++new++rows.drop i).flatten,by rw[hlen],Nat.lt_succ_self _,⟨cD (k+m*es),?_⟩,?_⟩,hall⟩
  ·show((s.h.del b).put s.nx _).get s.nx=_
   rw[bm,hlen]
  ·exact jK (by rw[List.drop_zero,List.take_of_length_le (by rw[dN hall];exact Nat.le_refl _)]) (dN hall)
 ·refine⟨Nat.le_succ _,fun d hd hne=>?_,rfl,fun ht d hd=>?_⟩
  ·show((s.h.del b).put s.nx _).get d=_
   rw[aT (by omega),jP hne]
  ·show((s.h.del b).put s.nx _).get d=none
   have hd:s.nx+1≤d:=hd
   rw[aT (by omega),jP (by omega)];exact ht d (by omega)
end
end Go.Am
end
section
namespace Go.Am
theorem ng:Str.of ⟨#[]⟩=⟨0,0⟩:=rfl
def Cap (v:AV):Prop:=∀a n c x,v= .slc a n c x→n≤c
theorem Acc.cap {s:St}{v:AV}{es:Nat}{rows:List (List AV)}(h:Acc s v es rows):Cap v:=by
 intro a n c x e
 rcases h.ex with⟨rfl,_⟩|⟨b,x',t,rfl,_⟩
 ·cases e;exact Nat.le_refl _
 ·cases e;exact Nat.le_refl _
theorem Cap.same {a:Option (Nat×Nat×Nat)}{n:Nat}{x:Bool}:Cap (.slc a n n x):=by
 intro _ _ _ _ e;cases e;exact Nat.le_refl _
def dM {α β:Type}(R:α→β→Prop):List α→List β→Prop
 |[],[]=>True
 |a::l,b::m=>R a b∧dM R l m
 | _,_=>False
section
variable {α β:Type}{R:α→β→Prop}
theorem dM.len:∀ {l:List α} {m:List β},dM R l m→l.length=m.length
 |[],[],_=>rfl
 |[],_::_,h=>h.elim
 | _::_,[],h=>h.elim
 | _::l,_::m,h=>by simp[dM.len h.2]
theorem dM.get:∀ {l:List α} {m:List β},dM R l m→∀ (i:Nat) a b,l[i]? =some a→m[i]? =some b→R a b
 |[],[],_,_,_,_,h,_=>by simp at h
 |[],_::_,h,_,_,_,_,_=>h.elim
 | _::_,[],h,_,_,_,_,_=>h.elim
 |a::l,b::m,h,0,a',b',ha,hb=>by simp at ha hb;subst ha hb;exact h.1
 |a::l,b::m,h,i+1,a',b',ha,hb=>dM.get h.2 i a' b' (by simpa using ha) (by simpa using hb)
theorem dM.of:∀ {l:List α} {m:List β},l.length=m.length→(∀ (i:Nat) a b,l[i]? =some a→m[i]? =some b→R a b)→dM R l m
 |[],[],_,_=>trivial
 |[],_::_,h,_=>by simp at h
 | _::_,[],h,_=>by simp at h
 |a::l,b::m,h,hr=>⟨hr 0 a b rfl rfl,dM.of (by simpa using h) fun i x y hx hy=>hr (i+1) x y (by simpa using hx) (by simpa using hy)⟩
theorem dM.append:∀ {l:List α} {m:List β} {l':List α} {m':List β},dM R l m→dM R l' m'→dM R (l++l') (m++m')
 |[],[],_,_,_,h'=>h'
 |[],_::_,_,_,h,_=>h.elim
 | _::_,[],_,_,h,_=>h.elim
 | _::_,_::_,_,_,h,h'=>⟨h.1,dM.append h.2 h'⟩
theorem dM.take:∀ {l:List α} {m:List β} (n:Nat),dM R l m→dM R (l.take n) (m.take n)
 |l,m,0,_=>by simp[dM]
 |[],[],_+1,_=>trivial
 |[],_::_,_+1,h=>h.elim
 | _::_,[],_+1,h=>h.elim
 | _::_,_::_,n+1,h=>⟨h.1,dM.take n h.2⟩
theorem dM.drop:∀ {l:List α} {m:List β} (n:Nat),dM R l m→dM R (l.drop n) (m.drop n)
 |l,m,0,h=>by simpa using h
 |[],[],_+1,h=>h
 |[],_::_,_+1,h=>h.elim
 | _::_,[],_+1,h=>h.elim
 | _::_,_::_,n+1,h=>dM.drop n h.2
theorem dM.mono {S:α→β→Prop}:∀ {l:List α} {m:List β},dM R l m→(∀a b,a∈l→b∈m→R a b→S a b)→dM S l m
 |[],[],_,_=>trivial
 |[],_::_,h,_=>h.elim
 | _::_,[],h,_=>h.elim
 |a::l,b::m,h,hs=>⟨hs a b (by simp) (by simp) h.1,dM.mono h.2 fun x y hx hy=>hs x y (by simp[hx]) (by simp[hy])⟩
end
section
variable {X:Ctx}
theorem Bk {t elem es:Nat}{s:St}{b off n c:Nat}{x:Bool}{k:IntKind}{h:Int}(hu:X.und t=some (.slice elem))(hs:X.size elem=some es)(h0:0≤h)(hc:h≤(c:Int)):cP X s t (.slc (some (b,off,es)) n c x) none (some (.int k h)) none=some (.slc (some (b,off,es)) h.toNat c x):=by
 have h1:=mf (k:=k) h0 hc
 simp only[cP,hu,qO,oQ,tZ,ob,uh,h1,hs,mW,AP,show Nat.beq es es=true from Nat.beq_refl es,show Nat.beq 0 0=true from rfl,Nat.sub_zero]
theorem y7 {t elem es:Nat}{s:St}{b off n c:Nat}{x:Bool}{k:IntKind}{l:Int}(hu:X.und t=some (.slice elem))(hs:X.size elem=some es)(h0:0<l)(hn:l≤(n:Int))(hc:l<(c:Int)):cP X s t (.slc (some (b,off,es)) n c x) (some (.int k l)) none none=some (.slc (some (b,off+l.toNat*es,es)) (n- l.toNat) (c- l.toNat) x):=by
 have h1:=mf (k:=k) (y:=n) (by omega:0≤l) hn
 have e1:Nat.beq l.toNat 0=false:=A6 (by omega)
 have e2:Nat.beq c l.toNat=false:=by
  cases hq:Nat.beq c l.toNat with
  |false=>rfl
  |true=>have:=Nat.beq_eq.mp hq;omega
 simp only[cP,hu,qO,oQ,tZ,ob,uh,h1,hs,mW,AP,show Nat.beq es es=true from Nat.beq_refl es,e1,e2]
end
theorem Sli.to {s:St}{b off es n c:Nat}{x:Bool}{rows:List (List AV)}(h:Sli s (.slc (some (b,off,es)) n c x) es rows){k:Nat}(hk:k≤rows.length)(c':Nat)(x':Bool):Sli s (.slc (some (b,off,es)) k c' x') es (rows.take k):=by
 obtain⟨a,c0,x0,e,h2⟩:=h.ex
 cases e
 refine⟨some (b,off,es),c',x',by rw[List.length_take,Nat.min_eq_left hk],fun hn=>?_⟩
 obtain⟨b',off',t,m,e,k1,k2,k3⟩:=h2 (fun e=>hn (by rw[e];simp))
 cases e
 exact⟨b,off,t,m,rfl,k1,k2,fun i r hi=>by
  rw[List.getElem?_take] at hi
  split at hi
  ·exact k3 i r hi
  ·cases hi⟩
theorem Sli.from {s:St}{b off es n c:Nat}{x:Bool}{rows:List (List AV)}(h:Sli s (.slc (some (b,off,es)) n c x) es rows)(k:Nat)(c':Nat)(x':Bool):Sli s (.slc (some (b,off+k*es,es)) (n- k) c' x') es (rows.drop k):=by
 obtain⟨a,c0,x0,e,h2⟩:=h.ex
 cases e
 refine⟨some (b,off+k*es,es),c',x',by rw[List.length_drop],fun hn=>?_⟩
 obtain⟨b',off',t,m,e,k1,k2,k3⟩:=h2 (fun e=>hn (by rw[e];simp))
 cases e
 exact⟨b,off+k*es,t,m,rfl,k1,k2,fun i r hi=>by
  rw[List.getElem?_drop] at hi
  have:=k3 (k+i) r hi
  rwa [Nat.add_mul,←Nat.add_assoc] at this⟩
theorem Acc.set {s:St}{v:AV}{es:Nat}{rows:List (List AV)}(h:Acc s v es rows){i:Nat}(hi:i<rows.length){r:List AV}(hr:r.length=es):
  ∃b x t c' k,v= .slc (some (b,0,es)) rows.length rows.length x∧b<s.nx∧s.h.get b=some (.cells t k)∧stL r (0+i*es) t=some c'∧Acc {s with h:=s.h.put b (.cells c' k)} v es (rows.set i r)∧Mod (fun d=>d=b) s {s with h:=s.h.put b (.cells c' k)}:=by
 rcases h.ex with⟨rfl,rfl⟩|⟨b,x,t,rfl,h1,⟨f,h2⟩,h3⟩
 ·simp at hi
 ·have hrow:=gD h.len h3
  have hsp:∀j,j<r.length→∃u,t.get (0+i*es+j)=some u:=fun j hj=>by
   have h4:=(aR.mp (hrow i rows[i] (List.getElem?_eq_getElem hi))).2
   have hl:=h.len rows[i] (List.getElem_mem hi)
   exact⟨_,h4 j (rows[i][j]'(by omega)) (List.getElem?_eq_getElem (by omega))⟩
  obtain⟨c',hc⟩:=ia hsp
  have hlen:∀q∈rows.set i r,q.length=es:=fun q hq=>by
   rcases List.mem_or_eq_of_mem_set hq with hq|rfl
   ·exact h.len q hq
   ·exact hr
  refine⟨b,x,t,c',_,rfl,h1,h2,hc,⟨.inr ⟨b,x,c',by rw[List.length_set],h1,⟨f,by rw[List.length_set];exact bm⟩,?_⟩,hlen⟩,(Mod.refl _ s).put _ (.inr rfl) h1⟩
  have hget:=lB hc
  refine sd (off:=0) fun j q hq=>?_
  rw[List.getElem?_set] at hq
  refine aR.mpr ⟨hlen q (by
   have:=List.mem_of_getElem? (l:=rows.set i r) (i:=j) (by rw[List.getElem?_set];exact hq)
   exact this),fun m u hu=>?_⟩
  split at hq
  ·rename_i e
   subst e
   cases hq
   have hm:=(List.getElem?_eq_some_iff.mp hu).1
   rw[hget,if_pos ⟨by omega,by omega⟩,show 0+i*es+m- (0+i*es)=m by omega]
   exact hu
  ·rename_i e
   have hm:=(List.getElem?_eq_some_iff.mp hu).1
   have hq':=h.len q (List.mem_of_getElem? hq)
   rw[hget,if_neg ?_]
   ·exact(aR.mp (hrow j q hq)).2 m u hu
   ·rintro⟨g1,g2⟩
    rcases Nat.lt_or_ge j i with q1|q1
    ·have:(j+1)*es≤i*es:=Nat.mul_le_mul_right _ q1
     rw[Nat.add_mul] at this;omega
    ·have:(i+1)*es≤j*es:=Nat.mul_le_mul_right _ (by omega)
     rw[Nat.add_mul] at this;omega
end Go.Am
end
