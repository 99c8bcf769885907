/-
  A part of the texts.
-/
import Derived.OrdersIn
import Derived.RangeFuncIn
import Derived.Test.YtofohkdkpbigiaaQaf
section
namespace Go.Am
section
variable {P:Program}{X:Ctx}(hX:dU P X){ι:Inj}{s:St}{w:World}
include hX in
theorem CD {t ty:TypeId}{x v:AV}{cx:Value}(h:oU X t x s=some v)(hH:HR P ι s w)(hx:VR ι x cx):∃cv,(Builtin.len_ #[t] ty #[cx]).run P w= .ok cv w∧VR ι v cv:=by
 unfold oU at h
 split at h
 ·rename_i a hu
  cases h
  obtain⟨bs,rfl,rfl⟩:=hx.str
  exact⟨.int .i64 bs.size,by simp[Builtin.len_,aL hX hu,goInt],by simp[VR,Str.of]⟩
 ·rename_i n e hu
  cases h
  exact⟨.int .i64 n,by simp[Builtin.len_,aL hX hu,goInt],by simp[VR]⟩
 ·rename_i e a n c x hu
  cases h
  obtain⟨p,ccap,rfl,_⟩:=iv hx
  exact⟨.int .i64 n,by simp[Builtin.len_,aL hX hu,goInt],by simp[VR]⟩
 ·rename_i a b hu
  cases h
  simp only[VR] at hx
  subst hx
  exact⟨.int .i64 0,by simp[Builtin.len_,aL hX hu,goInt],by simp[VR]⟩
 ·rename_i a b r hu
  split at h
  ·rename_i es hg
   cases h
   rcases xZ (x:= .map (some r)) (es:=es) (by simp[mapOf,hg]) hH hx with⟨rfl,rfl⟩|⟨r',cb,h1,rfl,h2,h3,h4,l,clock,h5,⟨l',hp,hr⟩,h6⟩
   ·exact⟨.int .i64 0,by simp[Builtin.len_,aL hX hu,goInt],by simp[VR]⟩
   ·have hl:es.length=l.size:=by rw[hr.length,hp.length_eq,Array.length_toList]
    refine⟨.int .i64 l.size,?_,by simp[VR,hl]⟩
    have hg':(getObj cb).run P w= .ok (.map l clock) w:=by simp[getObj,Sem.run,h5]
    simp[Builtin.len_,aL hX hu,goInt,hg']
  ·cases h
 ·cases h
include hX in
theorem CC {t ty:TypeId}{x v:AV}{cx:Value}(h:AE X t x=some v)(hx:VR ι x cx):∃cv,(Builtin.cap_ #[t] ty #[cx]).run P w= .ok cv w∧VR ι v cv:=by
 unfold AE at h
 split at h
 ·rename_i a n c
  split at h
  ·rename_i e hu
   cases h
   obtain⟨p,ccap,rfl,_,_,h1,_⟩:=iv hx
   have:=h1 rfl
   subst this
   exact⟨.int .i64 ccap,by simp[Builtin.cap_,aL hX hu,goInt],by simp[VR]⟩
  ·cases h
 ·cases h
theorem EJ:∀ (l:List AV) (cl:List Value) (k:IntKind) (x:Int) (v:AV),EW.go k x l=some v→VRs ι l cl→∃cv,(cl.foldlM Builtin.max2 (.int k x)).run P w= .ok cv w∧VR ι v cv
 |[],cl,k,x,v,h,hl=>by
  cases cl with
  |nil=>cases h;exact⟨.int k x,by simp,by simp[VR]⟩
  |cons _ _=>simp[VRs] at hl
 |y::l,cl,k,x,v,h,hl=>by
  cases cl with
  |nil=>simp[VRs] at hl
  |cons cy cl=>
   simp only[VRs] at hl
   unfold EW.go at h
   split at h
   ·rename_i e;cases e
   ·rename_i j n l' e
    cases e
    have:=hl.1.int
    subst this
    obtain⟨cv,h1,h2⟩:=EJ l cl k _ v h hl.2
    refine⟨cv,?_,h2⟩
    simpa[List.foldlM_cons,Builtin.max2] using h1
   ·cases h
theorem D5:∀ (l:List AV) (cl:List Value) (k:IntKind) (x:Int) (v:AV),E6.go k x l=some v→VRs ι l cl→∃cv,(cl.foldlM Builtin.min2 (.int k x)).run P w= .ok cv w∧VR ι v cv
 |[],cl,k,x,v,h,hl=>by
  cases cl with
  |nil=>cases h;exact⟨.int k x,by simp,by simp[VR]⟩
  |cons _ _=>simp[VRs] at hl
 |y::l,cl,k,x,v,h,hl=>by
  cases cl with
  |nil=>simp[VRs] at hl
  |cons cy cl=>
   simp only[VRs] at hl
   unfold E6.go at h
   split at h
   ·rename_i e;cases e
   ·rename_i j n l' e
    cases e
    have:=hl.1.int
    subst this
    obtain⟨cv,h1,h2⟩:=D5 l cl k _ v h hl.2
    refine⟨cv,?_,h2⟩
    simpa[List.foldlM_cons,Builtin.min2] using h1
   ·cases h
theorem E9 {l:List AV}{cl:Array Value}{ts:Array TypeId}{ty:TypeId}{v:AV}(h:EW l=some v)(hl:VRs ι l cl.toList):∃cv,(Builtin.max_ ts ty cl).run P w= .ok cv w∧VR ι v cv:=by
 unfold EW at h
 split at h
 ·cases h
 ·rename_i k x rest
  obtain⟨cl⟩:=cl
  cases cl with
  |nil=>simp[VRs] at hl
  |cons cx cl=>
   simp only[VRs] at hl
   have:=hl.1.int
   subst this
   simpa[Builtin.max_] using EJ (P:=P) (w:=w) rest cl k x v h hl.2
 ·cases h
theorem FF {l:List AV}{cl:Array Value}{ts:Array TypeId}{ty:TypeId}{v:AV}(h:E6 l=some v)(hl:VRs ι l cl.toList):∃cv,(Builtin.min_ ts ty cl).run P w= .ok cv w∧VR ι v cv:=by
 unfold E6 at h
 split at h
 ·cases h
 ·rename_i k x rest
  obtain⟨cl⟩:=cl
  cases cl with
  |nil=>simp[VRs] at hl
  |cons cx cl=>
   simp only[VRs] at hl
   have:=hl.1.int
   subst this
   simpa[Builtin.min_] using D5 (P:=P) (w:=w) rest cl k x v h hl.2
 ·cases h
theorem vL {f:AV→Option OR}{l:List AV}{r:OR}{cl:Array Value}(h:uf f l=some r)(hl:VRs ι l cl.toList):∃x cx,f x=some r∧VR ι x cx∧cl= #[cx]:=by
 unfold uf at h
 split at h
 ·rename_i x
  obtain⟨cl⟩:=cl
  match cl,hl with
  |[cx],hl=>exact⟨x,cx,h,by simpa[VRs] using hl,rfl⟩
  |[],hl=>simp[VRs] at hl
  | _::_::_,hl=>simp[VRs] at hl
 ·cases h
theorem qL {f:AV→AV→Option OR}{l:List AV}{r:OR}{cl:Array Value}(h:ya f l=some r)(hl:VRs ι l cl.toList):∃x y cx cy,f x y=some r∧VR ι x cx∧VR ι y cy∧cl= #[cx,cy]:=by
 unfold ya at h
 split at h
 ·rename_i x y
  obtain⟨cl⟩:=cl
  match cl,hl with
  |[cx,cy],hl=>simp only[VRs,and_true] at hl;exact⟨x,y,cx,cy,h,hl.1,hl.2,rfl⟩
  |[],hl=>simp[VRs] at hl
  |[_],hl=>simp[VRs] at hl
  | _::_::_::_,hl=>simp[VRs] at hl
 ·cases h
include hX in
theorem uA {b:Builtin}{ts:Array TypeId}{ty:TypeId}{cs:Array Bool}{args:List AV}{cargs:Array Value}{r:OR}(h:dX X b ts.toList args s=some r)(hH:HR P ι s w)(ha:VRs ι args cargs.toList):
  iX P ι s w r ((builtin b ts ty cs cargs).run P w):=by
 obtain⟨ts⟩:=ts
 unfold dX at h
 split at h
 ·split at h
  ·rename_i t e
   simp only at e
   subst e
   obtain⟨x,cx,h1,h2,rfl⟩:=vL h ha
   exact gu h1 fun v hv=>CD hX hv hH h2
  ·cases h
 ·split at h
  ·rename_i t e
   simp only at e
   subst e
   obtain⟨x,cx,h1,h2,rfl⟩:=vL h ha
   exact gu h1 fun v hv=>CC hX hv h2
  ·cases h
 ·split at h
  ·rename_i t u rest e
   simp only at e
   subst e
   obtain⟨x,y,cx,cy,h1,h2,h3,rfl⟩:=qL h ha
   unfold j8 at h1
   split at h1
   ·rename_i e he
    exact o0 hX h1 (fun d hd k=>by rw[he] at hd;cases hd;simp) ⟨_,he⟩ hH h2 h3
   ·rename_i he
    exact o0 hX h1 (fun d hd k=>by rw[he] at hd;cases hd;simp) ⟨_,he⟩ hH h2 h3
   ·rename_i k he
    exact xm hX h1 he hH h2 h3
   ·cases h1
  ·cases h
 ·split at h
  ·rename_i t rest e
   simp only at e
   subst e
   obtain⟨x,y,cx,cy,h1,h2,h3,rfl⟩:=qL h ha
   exact zb hX h1 hH h2 h3
  ·cases h
 ·exact gu h fun v hv=>E9 hv ha
 ·exact gu h fun v hv=>FF hv ha
 ·split at h
  ·rename_i t rest e
   simp only at e
   subst e
   obtain⟨x,y,cx,cy,h1,h2,h3,rfl⟩:=qL h ha
   exact BH hX h1 rfl hH h2 h3
  ·cases h
 ·cases h
theorem A3 {fr:Fr}{a:Act}(xs:Array Operand)(hf:∀x∈xs,VR ι (fr.opd x) (a.eval x)):VRs ι (xs.toList.map fr.opd) (xs.map a.eval).toList:=by
 simp only[Array.toList_map]
 have hf:∀x∈xs.toList,VR ι (fr.opd x) (a.eval x):=fun x hx=>hf x (by simpa using hx)
 revert hf
 induction xs.toList with
 |nil=>simp[VRs]
 |cons x l ih=>intro hf;simp only[List.map_cons,VRs];exact⟨hf x (by simp),ih fun y hy=>hf y (by simp[hy])⟩
include hX in
theorem pq {x:AV}{cx:Value}{name:String}{args:List AV}{cargs:Array Value}{r:OR}(h:sK X x name args=some r)(hx:VR ι x cx)(ha:VRs ι args cargs.toList):
  ∃g args',r= .call g args'∧(∃t cv,cx= .iface t cv∧∀n,(method (n+1) t cv name).run P w= .ok (g,cv) w)∧∃cargs',(callMethod cx name cargs).run P w=(callFunc g cargs').run P w∧VRs ι args' cargs'.toList:=by
 unfold sK at h
 split at h
 ·rename_i t v
  split at h
  ·rename_i i hi
   unfold Mp at h
   split at h
   ·rename_i m hm
    split at h
    ·rename_i d hp hu
     unfold MC at h
     split at h
     ·rename_i f b hf
      split at h
      ·rename_i hb
       cases h
       have hb:b=Ch d:=by simpa using hb
       simp only[VR] at hx
       obtain⟨cv,rfl,hv⟩:=hx
       have hmeth:∀n,(method (n+1) t cv name).run P w= .ok (f,cv) w:=fun n=>by
        have hm':i.methods.find? (fun m=>m.name==name)=some m:=by
         rw[←Array.find?_toList];exact hm
        unfold method
        simp only[Sem.run_bind,run_typeInfo hX hi,Result.andThen_ok,hm',hp,follow,Sem.run_pure,hf]
        unfold receiverAt
        simp only[Sem.run_bind,aL hX hu,Result.andThen_ok]
        subst hb
        cases d<;>simp[Ch,Place.get]
       refine⟨f,_,rfl,⟨t,cv,rfl,hmeth⟩, #[cv]++cargs,?_,by simpa[VRs] using⟨hv,ha⟩⟩
       have hd:P.types.size+Made.depth=(P.types.size+Made.depth- 1)+1:=by
        have:0<Made.depth:=by decide
        omega
       unfold callMethod
       simp only[Sem.run_bind,run_program,Result.andThen_ok]
       rw[hd,hmeth]
       simp
      ·cases h
     ·cases h
    ·cases h
   ·cases h
  ·cases h
 ·cases h
include hX in
theorem de {o:Oper}{fr:Fr}{a:Act}{r:OR}(h:fZ X o fr s=some r)(hH:HR P ι s w)(he:∀x∈o.op.operands,VR ι (fr.opd x) (a.eval x)):
  iX P ι s w r ((execOp a.eval o).run P w):=by
 unfold fZ at h
 split at h
 ·rename_i x ho;cases h;exact⟨_,by simp[execOp,ho],he x (by simp[Op.operands,ho])⟩
 ·rename_i x ho;cases h;exact⟨_,by simp[execOp,ho],he x (by simp[Op.operands,ho])⟩
 ·rename_i c x y ho;simp only[execOp,ho];exact Ag h (he c (by simp[Op.operands,ho])) (he x (by simp[Op.operands,ho])) (he y (by simp[Op.operands,ho]))
 ·rename_i t ho;simp only[execOp,ho];exact xB hX h hH
 ·rename_i t x ho;simp only[execOp,ho];exact AR h hH (he x (by simp[Op.operands,ho]))
 ·rename_i t ps ho;simp only[execOp,ho];exact xK hX h fun p hp=>he p.2 (by simp only[ho,Op.operands,List.mem_toArray,List.mem_map];exact⟨p,hp,rfl⟩)
 ·rename_i t n ps ho;simp only[execOp,ho];exact vj hX h hH fun p hp=>he p.2 (by simp only[ho,Op.operands,List.mem_toArray,List.mem_map];exact⟨p,hp,rfl⟩)
 ·rename_i t x ho;simp only[execOp,ho];exact nZ h fun v hv=>ui hX hH hv (he x (by simp[Op.operands,ho]))
 ·rename_i t x y ho;simp only[execOp,ho]
  unfold cK at h
  split at h
  ·rename_i s' hs
   cases h
   obtain⟨w',h1,h2,h3⟩:=zg hX hH hs (he x (by simp[Op.operands,ho])) (he y (by simp[Op.operands,ho]))
   exact⟨_,w',undef, .inr ⟨Bi h1,rfl⟩,by simp[undef,VR,VRs],h2,h3⟩
  ·cases h
 ·rename_i x ho;exact A5 h (he x (by simp[Op.operands,ho])) rfl ho
 ·rename_i op t x y c ho;simp only[execOp,ho];exact gu h fun v hv=>BT hX hv (he x (by simp[Op.operands,ho])) (he y (by simp[Op.operands,ho]))
 ·rename_i op t x ho;simp only[execOp,ho];exact gu h fun v hv=>Fk hv (he x (by simp[Op.operands,ho]))
 ·rename_i t u x ho;simp only[execOp,ho];exact uw hX h hH (he x (by simp[Op.operands,ho]))
 ·rename_i t x ho;simp only[execOp,ho];exact uz hX h (he x (by simp[Op.operands,ho]))
 ·rename_i f x y ho;simp only[execOp,ho];cases h
  exact⟨.func f (x.map a.eval) (y.map a.eval),bt (by simp[Instr.makeFunc]),by simp only[VR];exact⟨_,_,rfl,A3 x fun y hy=>he y (by simp[Op.operands,ho,hy]),A3 y fun z hz=>he z (by simp[Op.operands,ho,hz])⟩⟩
 ·rename_i t ho;simp only[execOp,ho];exact xi h hH
 ·rename_i t l c ho;simp only[execOp,ho];exact ur hX h hH (he l (by simp[Op.operands,ho])) (he c (by simp[Op.operands,ho]))
 ·rename_i t x lo hi mx ho;simp only[execOp,ho];exact gu h fun v hv=>wO hX hv hH (he x (by simp[Op.operands,ho])) (VRo.of_map _ fun y hy=>he y (by simp[Op.operands,ho,hy])) (VRo.of_map _ fun y hy=>he y (by simp[Op.operands,ho,hy])) (VRo.of_map _ fun y hy=>he y (by simp[Op.operands,ho,hy]))
 ·rename_i t x i ho;simp only[execOp,ho];exact sR hX h (he x (by simp[Op.operands,ho]))
 ·rename_i t x i ho;simp only[execOp,ho];exact xd hX h (he x (by simp[Op.operands,ho]))
 ·rename_i t x i ho;simp only[execOp,ho];exact sO hX h (he x (by simp[Op.operands,ho])) (he i (by simp[Op.operands,ho]))
 ·rename_i t x i ho;simp only[execOp,ho];exact xM hX h (he x (by simp[Op.operands,ho])) (he i (by simp[Op.operands,ho]))
 ·rename_i t x k ok ho;simp only[execOp,ho];exact wc hX h hH (he x (by simp[Op.operands,ho])) (he k (by simp[Op.operands,ho]))
 ·rename_i t m k x ho;simp only[execOp,ho];exact ph hX h hH (he m (by simp[Op.operands,ho])) (he k (by simp[Op.operands,ho])) (he x (by simp[Op.operands,ho]))
 ·rename_i t m k x ho;simp only[execOp,ho];exact ph hX h hH (he m (by simp[Op.operands,ho])) (he k (by simp[Op.operands,ho])) (he x (by simp[Op.operands,ho]))
 ·rename_i x i ho;simp only[execOp,ho];exact uv h (he x (by simp[Op.operands,ho]))
 ·rename_i x t u ok ho;simp only[execOp,ho];exact wK hX h (he x (by simp[Op.operands,ho]))
 ·rename_i c ho;simp only[execOp,ho]
  unfold pz at h
  split at h
  ·rename_i f hc
   unfold ti at h
   split at h
   ·rename_i g first cap hv
    cases h
    have hfv:=he f (by simp[Op.operands,Call.operands,ho,hc])
    rw[hv] at hfv
    simp only[VR] at hfv
    obtain⟨x,y,h1,h2,h3⟩:=hfv
    refine⟨x++c.args.map a.eval++y,by simp[resolve,hc,h1,Deferred.ofValue,invoke],?_⟩
    simpa using(h2.append (A3 c.args fun y hy=>he y (by simp[Op.operands,Call.operands,ho,hc,hy]))).append h3
   ·rename_i b hv
    cases h
    have hfv:=he f (by simp[Op.operands,Call.operands,ho,hc])
    rw[hv] at hfv
    simp only[VR] at hfv
    obtain⟨cb,d,h1,h2⟩:=hfv
    exact⟨cb,d,c.args.map a.eval,h1,by simp[resolve,hc,h2,Deferred.ofValue,invoke],A3 c.args fun y hy=>he y (by simp[Op.operands,Call.operands,ho,hc,hy])⟩
   ·cases h
  ·rename_i b hc
   simp only[resolve,hc,Sem.run_bind,Sem.run_pure,Result.andThen_ok,invoke]
   exact uA hX h hH (A3 c.args fun y hy=>he y (by simp[Op.operands,Call.operands,ho,hc,hy]))
  ·rename_i rv name hc
   obtain⟨g,args',rfl,_,cargs',h1,h2⟩:=pq hX (w:=w) h (he rv (by simp[Op.operands,Call.operands,ho,hc])) (A3 c.args fun y hy=>he y (by simp[Op.operands,Call.operands,ho,hc,hy]))
   refine⟨cargs',?_,h2⟩
   rw[←h1]
   have e0:(#[a.eval rv]++Array.map a.eval c.args)[0]? =some (a.eval rv):=by rw[Array.getElem?_append_left (by simp)];rfl
   have e1:(#[a.eval rv]++Array.map a.eval c.args).extract 1 (#[a.eval rv]++Array.map a.eval c.args).size=Array.map a.eval c.args:=by
    apply Array.ext'
    simp
    rw[List.take_of_length_le (by simp)]
   simp only[resolve,hc,invoke,Sem.run_bind,Sem.run_pure,Result.andThen_ok,e0,e1]
 ·rename_i c ho;simp only[execOp,ho]
  unfold Gm at h
  split at h
  ·rename_i f hc
   unfold va at h
   split at h
   ·rename_i g first cap hv
    cases h
    have hfv:=he f (by simp[Op.operands,Call.operands,ho,hc])
    rw[hv] at hfv
    simp only[VR] at hfv
    obtain⟨x,y,h1,h2,h3⟩:=hfv
    refine⟨⟨.fn (.func g) y,x++c.args.map a.eval⟩,y,by simp[resolve,hc,h1,Deferred.ofValue],rfl,?_⟩
    simpa using(h2.append (A3 c.args fun y hy=>he y (by simp[Op.operands,Call.operands,ho,hc,hy]))).append h3
   ·cases h
  ·cases h
 ·rename_i x ho;simp only[execOp,ho]
  unfold vh at h
  split at h
  ·rename_i t v hv
   cases h
   have hfv:=he x (by simp[Op.operands,ho])
   rw[hv] at hfv
   have hfv0:=hfv
   simp only[VR] at hfv
   obtain⟨u,h1,h2⟩:=hfv
   rw[h1] at hfv0
   exact⟨_,by simp[h1,Instr.panic],hfv0⟩
  ·cases h
 ·cases h
end
end Go.Am
end
section
namespace Go.Am
structure FRN (N:Nat)(H:Nat→Prop)(ι:Inj)(fr:Fr)(a:Act):Prop where
 t:∀k v,¬H k→fr.t.get k=some v→∃cv,a.tmps[k]? =some cv∧VR ι v cv
 d:DRs ι fr.d a.defers
 n:N≤a.tmps.size
abbrev mB:Nat→Prop:=fun _=>False
section
variable {N:Nat}{H:Nat→Prop}{ι κ:Inj}{fr:Fr}{a:Act}
theorem FRN.mono (h:ι.le κ)(hf:FRN N H ι fr a):FRN N H κ fr a:=
 ⟨fun k v hk hv=>let⟨cv,h1,h2⟩:=hf.t k v hk hv;⟨cv,h1,h2.mono h⟩,hf.d.mono h,hf.n⟩
theorem FRN.opd (hf:FRN N H ι fr a)(x:Operand)(hx:∀t,x= .tmp t→¬H t):VR ι (fr.opd x) (a.eval x):=by
 cases x with
 |tmp t=>
  simp only[Fr.opd]
  split
  ·rename_i v hv
   obtain⟨cv,h1,h2⟩:=hf.t t v (hx t rfl) hv
   simpa[Act.eval,h1] using h2
  ·simp[VR]
 |const v=>exact jJ ι v
 |global g=>simp[Fr.opd,VR,Act.eval]
 |func f=>simp only[Fr.opd,Act.eval,VR];exact⟨#[], #[],rfl,by simp[VRs],by simp[VRs]⟩
theorem pI (a:Act)(d:Nat)(v:Value):a.put (some d) v={a with tmps:=a.tmps.setIfInBounds d v}:=rfl
theorem FRN.put (hf:FRN N H ι fr a){v:AV}{cv:Value}(hv:VR ι v cv){d:Nat}(hd:d<N):FRN N H ι ⟨fr.t.put d v,fr.d⟩ (a.put (some d) cv):=by
 refine⟨fun k u hk hu=>?_,hf.d,by simpa[pI] using hf.n⟩
 rw[pI]
 rcases Tr.df hu with⟨rfl,rfl⟩|⟨hne,hu⟩
 ·exact⟨cv,by simp only;rw[Array.getElem?_setIfInBounds_self_of_lt (Nat.lt_of_lt_of_le hd hf.n)],hv⟩
 ·obtain⟨c,h1,h2⟩:=hf.t k u hk hu
  exact⟨c,by simp only;rw[Array.getElem?_setIfInBounds_ne (Ne.symm hne)];exact h1,h2⟩
theorem lN {n:Nat}{o:Oper}{d:Nat}(h:mH n o=true)(hd:o.dst=some d):d<n:=by
 simp only[mH,hd] at h
 simpa[Nat.blt_eq] using h
theorem gg {fr:Fr}{dst:Option Nat}{v:AV}{s:St}{pr:PR}(h:kG fr dst v s=some pr):∃fr',pr= .go fr' s∧fr'.d=fr.d∧(∀k u,fr'.t.get k=some u→(dst=some k∧u=v)∨(dst≠some k∧fr.t.get k=some u))∧((∀d,dst=some d→d≤1000000000)→∀k,dst≠some k→fr'.t.get k=fr.t.get k)∧
  ∀ {N:Nat} {H:Nat→Prop} {ι:Inj} {a:Act} {cv:Value},FRN N H ι fr a→VR ι v cv→(∀d,dst=some d→d<N)→FRN N H ι fr' (a.put dst cv):=by
 unfold kG at h
 split at h
 ·cases h
  exact⟨fr,rfl,rfl,fun k u hu=> .inr ⟨by simp,hu⟩,fun _ _ _=>rfl,fun hf _ _=>hf⟩
 ·rename_i d
  simp only[Tr.rN] at h
  cases h
  refine⟨_,rfl,rfl,fun k u hu=>?_,fun hd k hk=>Tr.qB (hd _ rfl) (fun e=>hk (by rw[e])),fun hf hv hd=>hf.put hv (hd _ rfl)⟩
  rcases Tr.df hu with⟨rfl,rfl⟩|⟨hne,hu⟩
  ·exact .inl ⟨rfl,rfl⟩
  ·exact .inr ⟨fun e=>hne (Option.some.inj e).symm,hu⟩
end
def tY (P:Program)(ι:Inj)(s:St)(w:World)(r:CR):Ending→World→Prop
 | .returned cv,w'=>∃v s',r= .ret v s'∧∃κ,VR κ v cv∧HR P κ s' w'∧Ext ι s w κ s' w'
 | .panicked chain,w'=>∃v s',r= .pan v s'∧∃κ cv,chain=[{v:=cv,recovered:=false}]∧VR κ v cv∧HR P κ s' w'∧Ext ι s w κ s' w'
 | .outgrown,_=>False
def FE (P:Program)(ro:Option Nat):Fence:={fn:=fun f=>∃fn,P.funcs[f]? =some fn,depth:=none,alive:=false,round:=ro}
theorem Mo {P:Program}{ro:Option Nat}(n:Nat):(FE P ro).room n:=fun _ h=>by simp[FE] at h
theorem nP {P:Program}{ro:Option Nat}{f:FuncId}{args:Array Value}{w:World}{R:Ending→World→Prop}(h:CallsIn (FE P none) 0 P f args w R):CallsIn (FE P ro) (0- 1) P f args w R:=h
theorem wA {P:Program}{ro:Option Nat}{l:Nat}{f:FuncId}{tmps:Array Value}{assign body:Code}{w:World}{R:Ending→World→Prop}(h:RoundIn (FE P none) 0 P l f tmps assign body w R):RoundIn (FE P ro) (0- 1) P l f tmps assign body w R:=h
theorem lP {P:Program}{ro:Option Nat}{p:Prop}:(FE P ro).depth.isSome=true→p:=fun h=>by simp[FE] at h
theorem BU {P:Program}{f:FuncId}{args:Array Value}{w:World}{R:Ending→World→Prop}(h:CallsIn (FE P none) 0 P f args w R):Calls P f args w R:=
 fun cs=>let⟨e,w',fr,r,s,x⟩:=h.2 cs (Mo _);⟨e,w',fr,r,s.comes,x⟩
def np (P:Program)(ι:Inj)(s:St)(w:World)(r:CR)(f:FuncId)(cargs:Array Value):Prop:=
 ((callFunc f cargs).run P w= .ok (.enter f cargs) w∧CallsIn (FE P none) 0 P f cargs w (tY P ι s w r))∨
 ∃cv w',(callFunc f cargs).run P w= .ok (.value cv) w'∧tY P ι s w r (.returned cv) w'
def Ku (P:Program)(ι:Inj)(s:St)(w:World)(r:CR)(g:Tgt)(cargs:Array Value):Prop:=match g with
 | .fn f=>np P ι s w r f cargs
 | .rnd b=>∀cb d,ι b=some (cb,d)→∃fn tmps assign body,(Instr.yield cb cargs).run P w= .ok (.round cb fn tmps assign body) w∧RoundIn (FE P none) 0 P cb fn tmps assign body w (tY P ι s w r)
def od (P:Program)(call:dh):Prop:=
 ∀f args s r,call f args s=some r→∀ι w cargs,VRs ι args cargs.toList→HR P ι s w→Ku P ι s w r f cargs
theorem iQ {N:Nat}{H:Nat→Prop}{ι:Inj}{fr:Fr}{a:Act}{ops:Array Oper}{o:Oper}{b:Bool}(h:bI ops fr o=some b)(hf:FRN N H ι fr a)(hs:∀t∈o.looksAt ops,¬H t):
  Region.wanted o (yielded ops a.tmps)=b:=by
 unfold bI at h
 unfold Region.wanted
 split at h
 ·rename_i hg;cases h;simp[hg]
 ·rename_i j want hg
  simp only[hg]
  unfold uZ at h
  split at h
  ·rename_i g hj
   split at h
   ·rename_i d hd
    have hj':ops[j]? =some g:=by simpa using hj
    have hH:¬H d:=hs d (by simp[Oper.looksAt,hg,hj',hd])
    unfold z7 at h
    split at h
    ·rename_i c hc
     cases h
     obtain⟨cv,h1,h2⟩:=hf.t d _ hH hc
     rw[h2.bool] at h1
     simp[yielded,hj',hd,h1]
    ·rename_i l hc
     cases h
     obtain⟨cv,h1,h2⟩:=hf.t d _ hH hc
     obtain⟨x,h3,_⟩:=h2.tup
     rw[h3] at h1
     simp[yielded,hj',hd,h1]
    ·cases h
   ·cases h
  ·cases h
theorem iL {P:Program}{f:FuncId}{args:Array Value}{w w':World}{v:Next}(h:(callFunc f args).run P w= .ok v w'):∃fn,P.funcs[f]? =some fn:=by
 cases hP:P.funcs[f]? with
 |some fn=>exact⟨fn,rfl⟩
 |none=>simp[callFunc,hP] at h
theorem KQ {P:Program}{X:Ctx}(hX:dU P X){g:FuncId}(h:Nf X g=true):∃fn,P.funcs[g]? =some fn:=by
 unfold Nf at h
 split at h
 ·rename_i fn hg;exact⟨fn,hX.fns g fn hg⟩
 ·cases h
theorem wH {P:Program}{X:Ctx}(hX:dU P X){o:Oper}{fr:Fr}{a:Act}{w:World}{ι:Inj}(h:w8 X o fr=true)(he:∀x∈o.op.operands,VR ι (fr.opd x) (a.eval x)):∀f,o.about P w a.eval=some f→∃fn,P.funcs[f]? =some fn:=by
 intro f hf
 unfold Oper.about at hf
 split at hf
 ·rename_i c ho
  unfold w8 at h
  simp only[ho] at h
  cases hc:c.callee with
  |builtin b=>simp[resolve,hc,Target.leads] at hf
  |value x=>
   have hv:=he x (by simp[Op.operands,Call.operands,ho,hc])
   simp only[hc,Eo] at h
   unfold zi at h
   split at h
   ·rename_i g first cap e
    rw[e] at hv
    simp only[VR] at hv
    obtain⟨x',y',e1,_,_⟩:=hv
    simp[resolve,hc,e1,Deferred.ofValue,Target.leads] at hf
    subst hf
    exact KQ hX h
   ·rename_i e
    rw[e] at hv
    simp only[VR] at hv
    obtain⟨x',e1,_⟩:=hv
    simp[resolve,hc,e1,Deferred.ofValue] at hf
   ·rename_i e
    rw[e] at hv
    simp only[VR] at hv
    simp[resolve,hc,hv,Deferred.ofValue,Target.leads] at hf
   ·rename_i b e
    rw[e] at hv
    simp only[VR] at hv
    obtain⟨c',d',_,e1⟩:=hv
    simp[resolve,hc,e1,Deferred.ofValue,Target.leads] at hf
   ·cases h
  |invoke x name=>
   have hv:=he x (by simp[Op.operands,Call.operands,ho,hc])
   simp only[hc,Eo] at h
   have e0:(#[a.eval x]++Array.map a.eval c.args)[0]? =some (a.eval x):=by rw[Array.getElem?_append_left (by simp)];rfl
   unfold HP at h
   split at h
   ·rename_i e
    rw[e] at hv
    simp only[VR] at hv
    obtain⟨x',e1,_⟩:=hv
    rw[e1] at e0
    simp only[resolve,hc,Sem.run_pure,Target.leads,e1,e0] at hf
    cases hf
   ·rename_i e
    rw[e] at hv
    simp only[VR] at hv
    rw[hv] at e0
    simp only[resolve,hc,Sem.run_pure,Target.leads,hv,e0] at hf
    cases hf
   ·cases h
 ·cases hf
theorem wT {P:Program}{o:Oper}{a:Act}{w:World}(h:mC o=false):∀f,o.about P w a.eval=some f→∃fn,P.funcs[f]? =some fn:=by
 intro f hf
 unfold Oper.about at hf
 split at hf
 ·rename_i c ho
  unfold mC at h
  simp only[ho] at h
  cases hc:c.callee with
  |builtin b=>simp[resolve,hc,Target.leads] at hf
  |value x=>simp[hc] at h
  |invoke x name=>simp[hc] at h
 ·cases hf
theorem vW {P:Program}{X:Ctx}(hX:dU P X){call:dh}(hC:od P call){o:Oper}{fr:Fr}{a:Act}{s:St}{w:World}{ι:Inj}{dst:Option Nat}{pr:PR}(h:my call fr dst s (fZ X o fr s)=some pr)(hH:HR P ι s w)(he:∀x∈o.op.operands,VR ι (fr.opd x) (a.eval x)):
  ∀f,o.about P w a.eval=some f→∃fn,P.funcs[f]? =some fn:=by
 intro f hf
 have key:∀ {g:FuncId} {args:List AV} {cargs:Array Value},fZ X o fr s=some (.call g args)→(execOp a.eval o).run P w=(callFunc g cargs).run P w→VRs ι args cargs.toList→∃fn,P.funcs[g]? =some fn:=by
  intro g args cargs e1 e2 e3
  rw[e1] at h
  simp only[my,mG] at h
  unfold iu at h
  split at h
  ·rename_i v s' hcall
   rcases hC (.fn g) args s _ hcall ι w cargs e3 hH with⟨g1,_⟩|⟨cv,w',g1,_⟩
   ·exact iL g1
   ·exact iL g1
  ·rename_i v s' hcall
   rcases hC (.fn g) args s _ hcall ι w cargs e3 hH with⟨g1,_⟩|⟨cv,w',g1,_⟩
   ·exact iL g1
   ·exact iL g1
  ·cases h
 unfold Oper.about at hf
 split at hf
 ·rename_i c ho
  cases hop:fZ X o fr s with
  |none=>rw[hop] at h;simp[my] at h
  |some r=>
   have hS:=de hX hop hH he
   have hop':pz X c fr s=some r:=by
    have:fZ X o fr s=pz X c fr s:=by unfold fZ;rw[ho]
    rw[←this];exact hop
   unfold pz at hop'
   cases hc:c.callee with
   |builtin b=>simp[resolve,hc,Target.leads] at hf
   |value x=>
    have hv:=he x (by simp[Op.operands,Call.operands,ho,hc])
    simp only[hc] at hop'
    unfold ti at hop'
    split at hop'
    ·rename_i g first cap e
     cases hop'
     rw[e] at hv
     simp only[VR] at hv
     obtain⟨x',y',e1,_,_⟩:=hv
     simp[resolve,hc,e1,Deferred.ofValue,Target.leads] at hf
     subst hf
     obtain⟨cargs,k1,k2⟩:=hS
     exact key hop k1 k2
    ·rename_i b e
     rw[e] at hv
     simp only[VR] at hv
     obtain⟨c',d',_,e1⟩:=hv
     simp[resolve,hc,e1,Deferred.ofValue,Target.leads] at hf
    ·cases hop'
   |invoke x name=>
    simp only[hc] at hop'
    obtain⟨g,args',rfl,⟨t,cv,e1,e2⟩,_⟩:=pq hX (w:=w) hop' (he x (by simp[Op.operands,Call.operands,ho,hc])) (A3 c.args fun y hy=>he y (by simp[Op.operands,Call.operands,ho,hc,hy]))
    have e0:(#[a.eval x]++Array.map a.eval c.args)[0]? =some (a.eval x):=by rw[Array.getElem?_append_left (by simp)];rfl
    have hd:P.types.size+Made.depth=(P.types.size+Made.depth- 1)+1:=by
     have:0<Made.depth:=by decide
     omega
    rw[e1] at e0
    simp only[resolve,hc,Sem.run_pure,Target.leads,e1,e0] at hf
    rw[hd,e2] at hf
    simp only[Option.some.injEq] at hf
    subst hf
    obtain⟨cargs,k1,k2⟩:=hS
    exact key hop k1 k2
 ·cases hf
section
variable {P:Program}{X:Ctx}(hX:dU P X){call:dh}(hC:od P call){ops:Array Oper}{Q:Exit→Act→World→Prop}{K:Act→World→Prop}
include hX hC
theorem pQ {ro:Option Nat}{i:Nat}{o:Oper}{N:Nat}{H:Nat→Prop}{ι:Inj}{fr:Fr}{a:Act}{s:St}{w:World}{pr:PR}(hi:ops[i]? =some o)(h:eA X call ops o fr s=some pr)
  (hf:FRN N H ι fr a)(hH:HR P ι s w)(hs:∀t∈o.looksAt ops,¬H t)(hd:mH N o=true)(hq:ro=none∨gz o=true)
  (hgo:∀κ a' w' fr' s',pr= .go fr' s'→FRN N H κ fr' a'→HR P κ s' w'→Ext ι s w κ s' w'→(N≤1000000000→∀k,o.dst≠some k→fr'.t.get k=fr.t.get k)→K a' w')
  (hpan:∀κ a' w' fr' s' v cv,pr= .pan v fr' s'→FRN N H κ fr' a'→HR P κ s' w'→Ext ι s w κ s' w'→VR κ v cv→Q (.panic [{v:=cv,recovered:=false}]) a' w'):
  wpOpIn (FE P ro) 0 P ops Q i K a w:=by
 have hdl:∀d,o.dst=some d→d<N:=fun d=>lN hd
 have he:∀x∈o.op.operands,VR ι (fr.opd x) (a.eval x):=fun x hx=>hf.opd x fun t ht=>hs t (by
  subst ht
  exact List.mem_append_left _ (List.mem_filterMap.2 ⟨.tmp t,by simpa using hx,rfl⟩))
 have fin:∀ {κ:Inj} {fr0:Fr} {a0:Act} {s':St} {w':World} {v:AV} {cv:Value},kG fr0 o.dst v s'=some pr→FRN N H κ fr0 a0→HR P κ s' w'→Ext ι s w κ s' w'→VR κ v cv→fr0.t=fr.t→K (a0.put o.dst cv) w':=by
  intro κ fr0 a0 s' w' v cv hg hf0 hh hE hv ht
  obtain⟨fr',rfl,h1,h2,h4,h3⟩:=gg hg
  refine hgo κ _ w' fr' s' rfl (h3 hf0 hv hdl) hh hE fun hN k hk=>?_
  rw[←ht]
  exact h4 (fun d hd=>Nat.le_trans (Nat.le_of_lt (hdl d hd)) hN) k hk
 have hsem:o.semAt (FE P ro).round a.eval=execOp a.eval o:=by
  rcases hq with hq|hq
  ·subst hq;rfl
  ·exact Oper.semAt_eq _ _ _ fun c hc=>by simp[gz,hc] at hq
 unfold wpOpIn
 simp only[hi]
 unfold eA xD at h
 split at h
 ·cases h
 ·rename_i hw
  have hw:=iQ hw hf hs
  simp only[hw,Bool.false_eq_true,if_false]
  unfold mX at h
  split at h
  ·rename_i hp
   exact⟨wH hX hp he,fin h hf hH (Ext.refl _ _ _) (by simp[undef,VR,VRs]) rfl⟩
  ·cases h
 ·rename_i hw
  have hw:=iQ hw hf hs
  simp only[hw,if_true]
  refine⟨vW hX hC h hH he,?_⟩
  rw[hsem]
  have post:∀ {v cv s' w' κ},vR fr o.dst v s'=some pr→VR κ v cv→HR P κ s' w'→Ext ι s w κ s' w'→K (a.put o.dst cv) w':=by
   intro v cv s' w' κ hg hv hh hE
   unfold vR at hg
   simp only[oW,kF] at hg
   exact fin hg (hf.mono hE.le) hh hE hv rfl
  unfold my at h
  split at h
  ·cases h
  ·rename_i v hop
   obtain⟨cv,h1,h2⟩:=de hX hop hH he
   rw[h1]
   exact fin h hf hH (Ext.refl _ _ _) h2 rfl
  ·rename_i v hop
   simp only[kF] at h
   obtain⟨cv,h1,h2⟩:=de hX hop hH he
   rw[h1]
   exact fin h hf hH (Ext.refl _ _ _) h2 rfl
  ·rename_i v s' hop
   obtain⟨κ,w',cv,h1,h2,h3,h4⟩:=de hX hop hH he
   rcases h1 with h1|⟨h1,rfl⟩
   ·rw[h1];exact post h h2 h3 h4
   ·rw[h1];exact post h h2 h3 h4
  ·rename_i d hop
   obtain⟨cd,cap,h1,h2,h3⟩:=de hX hop hH he
   rw[h1]
   exact fin (κ:=ι) h ⟨hf.t, .cons h2 h3 hf.d,hf.n⟩ hH (Ext.refl _ _ _) (by simp[undef,VR,VRs]) rfl
  ·rename_i v hop
   cases h
   obtain⟨cv,h1,h2⟩:=de hX hop hH he
   rw[h1]
   exact hpan ι a w fr s v cv rfl hf hH (Ext.refl _ _ _) h2
  ·rename_i f args hop
   simp only[mG] at h
   obtain⟨cargs,h1,h2⟩:=de hX hop hH he
   rw[h1]
   unfold iu at h
   split at h
   ·rename_i v s' hcall
    rcases hC (.fn f) args s _ hcall ι w cargs h2 hH with⟨g1,g2⟩|⟨cv,w',g1,v',s'',e,κ,g3,g4,g5⟩
    ·rw[g1]
     refine⟨lP,nP (CallsIn.mono g2 fun e w' he=>?_)⟩
     cases e with
     |returned cv=>obtain⟨v',s'',e,κ,g3,g4,g5⟩:=he;cases e;exact post h g3 g4 g5
     |panicked chain=>obtain⟨v',s'',e,_⟩:=he;cases e
     |outgrown=>exact he.elim
    ·rw[g1];cases e;exact post h g3 g4 g5
   ·rename_i v s' hcall
    cases h
    rcases hC (.fn f) args s _ hcall ι w cargs h2 hH with⟨g1,g2⟩|⟨cv,w',g1,v',s'',e,κ,g3,g4,g5⟩
    ·rw[g1]
     refine⟨lP,nP (CallsIn.mono g2 fun e w' he=>?_)⟩
     cases e with
     |returned cv=>obtain⟨v',s'',e,_⟩:=he;cases e
     |panicked chain=>obtain⟨v',s'',e,κ,cv,rfl,g3,g4,g5⟩:=he;cases e;exact hpan κ a w' fr _ _ cv rfl (hf.mono g5.le) g4 g5 g3
     |outgrown=>exact he.elim
    ·cases e
   ·cases h
  ·rename_i b args hop
   simp only[mG] at h
   obtain⟨cb,d,cargs,h0,h1,h2⟩:=de hX hop hH he
   rw[h1]
   unfold iu at h
   split at h
   ·rename_i v s' hcall
    obtain⟨fn,tmps,assign,body,g1,g2⟩:=hC (.rnd b) args s _ hcall ι w cargs h2 hH cb d h0
    rw[g1]
    refine⟨lP,wA (RoundIn.mono g2 fun e w' he=>?_)⟩
    cases e with
    |returned cv=>obtain⟨v',s'',e,κ,g3,g4,g5⟩:=he;cases e;exact post h g3 g4 g5
    |panicked chain=>obtain⟨v',s'',e,_⟩:=he;cases e
    |outgrown=>exact he.elim
   ·rename_i v s' hcall
    cases h
    obtain⟨fn,tmps,assign,body,g1,g2⟩:=hC (.rnd b) args s _ hcall ι w cargs h2 hH cb d h0
    rw[g1]
    refine⟨lP,wA (RoundIn.mono g2 fun e w' he=>?_)⟩
    cases e with
    |returned cv=>obtain⟨v',s'',e,_⟩:=he;cases e
    |panicked chain=>obtain⟨v',s'',e,κ,cv,rfl,g3,g4,g5⟩:=he;cases e;exact hpan κ a w' fr _ _ cv rfl (hf.mono g5.le) g4 g5 g3
    |outgrown=>exact he.elim
   ·cases h
def lW (P:Program)(N:Nat)(ι:Inj)(s:St)(w:World)(r:EX×Fr×St)(e:Exit)(a':Act)(w':World):Prop:=
 ∃κ,FRN N mB κ r.2.1 a'∧HR P κ r.2.2 w'∧Ext ι s w κ r.2.2 w'∧match r.1,e with
  | .norm, .normal=>True
  | .brk i, .exit j=>i=j
  | .ret, .ret=>True
  | .pan v, .panic ch=>∃cv,ch=[{v:=cv,recovered:=false}]∧VR κ v cv
  | _,_=>False
omit hX hC in
theorem lW.of {N:Nat}{ι κ:Inj}{s t:St}{w u:World}{r:EX×Fr×St}{e:Exit}{a':Act}{w':World}(hE:Ext ι s w κ t u)(h:lW P N κ t u r e a' w'):lW P N ι s w r e a' w':=
 let⟨μ,h1,h2,h3,h4⟩:=h
 ⟨μ,h1,h2,hE.trans h3,h4⟩
theorem qy {ro:Option Nat}{N:Nat}{r:EX×Fr×St}{ι₀:Inj}{s₀:St}{w₀:World}:∀ (l:List Oper) (i:Nat),ops.toList.drop i=l→l.all (mH N)=true→(ro=none∨l.all gz=true)→∀ {ι:Inj} {fr:Fr} {a:Act} {s:St} {w:World},nV X call ops l fr s=some r→
  FRN N mB ι fr a→HR P ι s w→Ext ι₀ s₀ w₀ ι s w→wpOpsIn (FE P ro) 0 P ops (lW P N ι₀ s₀ w₀ r) (List.range' i l.length) a w
 |[],i,hl,hd,hq,ι,fr,a,s,w,h,hf,hH,hE=>by
  cases h
  exact⟨ι,hf,hH,hE,trivial⟩
 |o::l,i,hl,hd,hq,ι,fr,a,s,w,h,hf,hH,hE=>by
  have hoi:ops[i]? =some o:=by
   have:=congrArg List.head? hl
   simpa using this
  have hl':ops.toList.drop (i+1)=l:=by
   have:=congrArg List.tail hl
   simpa using this
  simp only[List.all_cons,Bool.and_eq_true] at hd hq
  have hq1:ro=none∨gz o=true:=hq.imp id (·.1)
  have hq2:ro=none∨l.all gz=true:=hq.imp id (·.2)
  rw[List.length_cons,List.range'_succ,wpOpsIn_cons]
  unfold nV jg at h
  split at h
  ·rename_i fr' s' hop
   refine pQ hX hC hoi hop hf hH (fun _ _ h=>h) hd.1 hq1 (fun κ a' w' fr'' s'' e hf' hH' hE' _=>?_) (fun κ a' w' fr'' s'' v cv e=>by cases e)
   cases e
   exact qy l (i+1) hl' hd.2 hq2 h hf' hH' (hE.trans hE')
  ·rename_i v fr' s' hop
   cases h
   refine pQ hX hC hoi hop hf hH (fun _ _ h=>h) hd.1 hq1 (fun κ a' w' fr'' s'' e=>by cases e) (fun κ a' w' fr'' s'' v cv e hf' hH' hE' hv=>?_)
   cases e
   exact⟨κ,hf',hH',hE.trans hE',cv,rfl,hv⟩
  ·cases h
end
end Go.Am
end
section
namespace Go.Am
mutual
theorem AV.ir:∀ {x y:AV},x.same y=true→x=y
 | .top,y,h=>by cases y<;>simp[AV.same] at h
 | .bool _,y,h=>by cases y<;>simp[AV.same] at h;subst h;rfl
 | .int _ _,y,h=>by cases y<;>simp[AV.same] at h;obtain⟨rfl,rfl⟩:=h;rfl
 | .flt _ _,y,h=>by cases y<;>simp[AV.same] at h;obtain⟨rfl,h⟩:=h;rw[h]
 | .str ⟨_,_⟩,y,h=>by cases y<;>simp[AV.same,Str.beq] at h;rename_i b;obtain⟨b1,b2⟩:=b;simp only at h;obtain⟨rfl,rfl⟩:=h;rfl
 | .ptr _,y,h=>by cases y<;>simp[AV.same] at h;subst h;rfl
 | .slc _ _ _ _,y,h=>by cases y<;>simp[AV.same] at h;obtain⟨⟨⟨rfl,h1⟩,h2⟩,rfl⟩:=h;rw[h1,h2]
 | .map _,y,h=>by cases y<;>simp[AV.same] at h;subst h;rfl
 | .func _ a b,y,h=>by
  cases y<;>simp[AV.same] at h
  obtain⟨⟨rfl,h1⟩,h2⟩:=h
  rw[pt h1,pt h2]
 | .nilFunc,y,h=>by cases y<;>simp[AV.same] at h;rfl
 | .any,y,h=>by cases y<;>simp[AV.same] at h;rfl
 | .yld _,y,h=>by cases y<;>simp[AV.same] at h;rw[h]
 | .gp _ _,y,h=>by cases y<;>simp[AV.same] at h;rw[h.1,h.2]
 | .cls _ _ _ _,y,h=>by cases y<;>simp[AV.same] at h;rw[h.1,h.2.1,h.2.2.1,h.2.2.2]
 | .ne _ _,y,h=>by cases y<;>simp[AV.same] at h;rw[h.1,h.2]
 | .iface _ v,y,h=>by
  cases y<;>simp[AV.same] at h
  obtain⟨rfl,h1⟩:=h
  rw[AV.ir h1]
 | .nilIface,y,h=>by cases y<;>simp[AV.same] at h;rfl
 | .agg l,y,h=>by cases y<;>simp[AV.same] at h;rw[pt h]
 | .tup l,y,h=>by cases y<;>simp[AV.same] at h;rw[pt h]
theorem pt:∀ {x y:List AV},jf x y=true→x=y
 |[],[],_=>rfl
 |[],_::_,h=>by simp[jf] at h
 | _::_,[],h=>by simp[jf] at h
 |a::l,b::m,h=>by
  simp[jf] at h
  rw[AV.ir h.1,pt h.2]
end
theorem Ie {x y:Option AV}(h:GX x y=true):x=y:=by
 cases x<;>cases y<;>simp[GX] at h
 ·rfl
 ·rw[AV.ir h]
theorem Hv {x y:Tr AV}(h:MB x y=true):x=y:=Tr.sZ (fun _ _=>Ie) h
theorem F1 {x y:AB}(h:Db x y=true):x=y:=by
 unfold Db at h
 split at h
 ·simp only[Bool.and_eq_true] at h
  rw[Nat.beq_eq.mp h.1,Hv h.2]
 ·rfl
 ·cases h
section
variable {X:Ctx}{s s':St}
theorem uo {fr fr':Fr}{ps:Array (Nat×Operand)}(h:∀p∈ps.toList,fr'.opd p.2=fr.opd p.2):parts fr' ps=parts fr ps:=by
 unfold parts
 exact List.map_congr_left fun⟨i,x⟩ hp=>by have:=h _ hp;simp only at this;simp only[this]
theorem oa {fr fr':Fr}{xs:Array Operand}(h:∀x∈xs.toList,fr'.opd x=fr.opd x):xs.toList.map fr'.opd=xs.toList.map fr.opd:=
 List.map_congr_left fun x hx=>h x hx
theorem mj {o:Oper}{fr fr':Fr}(h:∀x∈o.op.operands,fr'.opd x=fr.opd x):fZ X o fr' s=fZ X o fr s:=by
 have opt:∀ (y:Option Operand),(∀x,y=some x→x∈o.op.operands)→y.map fr'.opd=y.map fr.opd:=fun y hy=>by
  cases y with
  |none=>rfl
  |some x=>simp[h x (hy x rfl)]
 unfold fZ
 cases ho:o.op<;>simp only[ho,Op.operands] at h opt<;>try simp only[]
 case build t ps=>rw[uo fun p hp=>h p.2 (by simp only[List.mem_toArray,List.mem_map];exact⟨p,hp,rfl⟩)]
 case buildSlice t n ps=>rw[uo fun p hp=>h p.2 (by simp only[List.mem_toArray,List.mem_map];exact⟨p,hp,rfl⟩)]
 case makeFunc fn a b=>rw[oa fun x hx=>h x (by simp[Array.mem_toList_iff.mp hx]),oa fun x hx=>h x (by simp[Array.mem_toList_iff.mp hx])]
 case makeMap t r=>cases r<;>rfl
 case slice t x lo hi mx=>
  rw[h x (by simp),opt lo fun x hx=>by simp[hx],opt hi fun x hx=>by simp[hx],opt mx fun x hx=>by simp[hx]]
 case call c=>
  have ha:c.args.toList.map fr'.opd=c.args.toList.map fr.opd:=oa fun x hx=>h x (by simp[Call.operands,Array.mem_toList_iff.mp hx])
  unfold pz
  cases hc:c.callee<;>simp only[ha]
  case value f=>rw[h f (by simp[Call.operands,hc])]
  case invoke rv name=>rw[h rv (by simp[Call.operands,hc])]
 case defer c=>
  have ha:c.args.toList.map fr'.opd=c.args.toList.map fr.opd:=oa fun x hx=>h x (by simp[Call.operands,Array.mem_toList_iff.mp hx])
  unfold Gm
  cases hc:c.callee<;>simp only[ha]
  case value f=>rw[h f (by simp[Call.operands,hc])]
 all_goals first
  |rfl
  |simp_all
structure St.le (s s':St):Prop where
 h:∀b ab,s.h.get b=some ab→s'.h.get b=some ab
 gl:s'.gl=s.gl
theorem St.le.cells {b:Nat}{c:Tr AV×Nat}(hle:s.le s')(h:s.cells b=some c):s'.cells b=some c:=by
 obtain⟨c,n⟩:=c
 have:=hle.h b _ (St.dK h)
 simp[St.cells,this]
theorem Cs {t:TypeId}{a v:AV}(hle:s.le s')(h:loadT X t a s=some v):loadT X t a s'=some v:=by
 unfold loadT at h ⊢
 split at h
 ·rename_i b off
  cases hc:s.cells b with
  |none=>rw[hc] at h;cases h
  |some c=>rw[hc] at h;simp only[hle.cells hc];exact h
 ·simp only[hle.gl];exact h
 ·cases h
theorem xn {n:Nat}{v:AV}{r:Nat×List AV}(hle:s.le s')(h:aZ s n v=some r):aZ s' n v=some r:=by
 unfold aZ at h ⊢
 split at h
 ·exact h
 ·rename_i b off es m c x
  split at h
  ·exact h
  ·rename_i h0
   cases hc:s.cells b with
   |none=>rw[hc] at h;cases h
   |some c=>rw[hc] at h;simp only[hle.cells hc];exact h
 ·exact h
 ·cases h
theorem C5 {t:TypeId}{x v:AV}(hle:s.le s')(h:oU X t x s=some v):oU X t x s'=some v:=by
 unfold oU at h ⊢
 split at h<;>(try simp only[*] at h ⊢)
 all_goals try exact h
 ·split at h
  ·rename_i es hg
   rw[hle.h _ _ hg];exact h
  ·cases h
theorem xz {t:TypeId}{x v:AV}{lo hi mx:Option AV}(hle:s.le s')(h:cP X s t x lo hi mx=some v):cP X s' t x lo hi mx=some v:=by
 unfold cP at h ⊢
 split at h<;>(try simp only[*] at h ⊢)
 all_goals try exact h
 ·rename_i n elem b off hu
  unfold Co at h ⊢
  split at h
  ·rename_i l hh m hb
   cases hc:s.cells b with
   |none=>rw[hc] at h;split at h<;>simp_all
   |some c=>rw[hc] at h;simp only[hle.cells hc];exact h
  ·cases h
theorem xA {t:TypeId}{x k:AV}{ok:Bool}{r:OR}(hle:s.le s')(h:eN X t x k ok s=some r):eN X t x k ok s'=some r:=by
 unfold eN at h ⊢
 split at h
 ·rename_i kt vt hu
  have hm:∀es,mapOf x s=some es→mapOf x s'=some es:=fun es he=>by
   unfold mapOf at he ⊢
   split at he
   ·exact he
   ·rename_i rr
    split at he
    ·rename_i es' hg;simp only[hle.h _ _ hg];exact he
    ·cases he
   ·cases he
  split at h
  ·rename_i d es hd hes
   simp only[hd,hm _ hes];exact h
  ·cases h
 ·cases h
theorem wk {a b:TypeId}{x:AV}{r:OR}(hle:s.le s')(h:bH X a b x s=some r)(hv:∀v s1,r≠ .val v s1):bH X a b x s'=some r:=by
 unfold bH at h ⊢
 split at h<;>(try simp only[*] at h ⊢)
 all_goals try exact h
 ·unfold iI at h
  split at h
  ·split at h
   ·cases h;exact absurd rfl (hv _ _)
   ·cases h
  ·cases h
 ·unfold pN at h ⊢
  split at h
  ·rename_i he
   split at h
   ·rename_i k l hs
    simp only[xn hle hs];exact h
   ·cases h
  ·cases h
theorem yL {o:Oper}{fr:Fr}{r:OR}(hle:s.le s')(hn:mC o=false)(h:fZ X o fr s=some r)(hv:∀v s1,r≠ .val v s1):fZ X o fr s'=some r:=by
 unfold fZ at h ⊢
 cases ho:o.op<;>simp only[ho] at h ⊢ <;>first
  |exact h
  |(simp[mC,ho] at hn;done)
  |skip
 case alloc t=>
  unfold ja dO at h
  split at h
  ·split at h
   ·cases h;exact absurd rfl (hv _ _)
   ·cases h
  ·cases h
 case box t x=>
  unfold dY dO at h
  split at h
  ·cases h
  ·split at h
   ·cases h;exact absurd rfl (hv _ _)
   ·cases h
 case buildSlice t n ps=>
  unfold bB eG fE at h
  (repeat' split at h)<;>first|(cases h;done)|(cases h;exact absurd rfl (hv _ _))
 case load t a=>
  unfold aO tf at h ⊢
  split at h
  ·rename_i v hl;rw[Cs hle hl];exact h
  ·cases h
 case convert a b x=>exact wk hle h hv
 case makeMap t r=>
  cases r with
  |none=>simp only[nY] at h;cases h;exact absurd rfl (hv _ _)
  |some _=>exact h
 case makeSlice t l c=>
  unfold eF nf at h
  (repeat' split at h)<;>first|(cases h;done)|(cases h;exact absurd rfl (hv _ _))
 case slice t x lo hi mx=>
  unfold jA at h ⊢
  split at h
  ·rename_i v hl;rw[xz hle hl];exact h
  ·cases h
 case lookup t x k ok=>exact xA hle h
 case call c=>
  unfold pz at h ⊢
  cases hc:c.callee<;>simp only[hc] at h ⊢
  case value f=>simp[mC,ho,hc] at hn
  case builtin b=>
   unfold dX at h ⊢
   cases b<;>simp only at h ⊢ <;>first
    |exact h
    |(simp[mC,ho,hc] at hn;done)
    |skip
   split at h
   ·unfold uf jA at h ⊢
    split at h
    ·simp only at h ⊢
     split at h
     ·rename_i v hl;simp only[C5 hle hl];exact h
     ·cases h
    ·cases h
   ·cases h
  case invoke=>exact h
end
end Go.Am
end
section
namespace Go.Am
theorem Dm (m i:Nat):bit m i=m.testBit i:=by
 have e1:m.testBit i=decide (m/2^i % 2=1):=Nat.testBit_eq_decide_div_mod_eq
 have e2:Nat.shiftRight m i=m/2^i:=Nat.shiftRight_eq_div_pow m i
 rw[e1]
 unfold bit
 rw[e2]
 cases h:decide (m/2^i % 2=1)
 ·have h:¬m/2^i % 2=1:=by simpa using h
  cases hb:Nat.beq (Nat.mod (m/2^i) 2) 1
  ·rfl
  ·exact absurd (Nat.beq_eq.mp hb) h
 ·have h:m/2^i % 2=1:=by simpa using h
  exact Nat.beq_eq.mpr h
theorem pk (m i j:Nat):bit (Nat.lor m (Nat.pow 2 i)) j=(bit m j||decide (i=j)):=by
 rw[Dm,Dm]
 have:Nat.lor m (Nat.pow 2 i)=m|||2^i:=rfl
 rw[this,Nat.testBit_or,Nat.testBit_two_pow]
theorem Ba (j:Nat):bit 0 j=false:=by rw[Dm];simp
theorem yM (e:Edge):Region.binds .any e=onB e:=by
 unfold Region.binds onB
 cases e.ground<;>rfl
section
variable {ops:Array Oper}
theorem gA {i:Nat}{o:Oper}:(i,o)∈ef ops↔ops[i]? =some o:=by
 unfold ef
 simp only[List.mem_map,Prod.mk.injEq,Prod.exists]
 constructor
 ·rintro⟨o',i',h,rfl,rfl⟩
  have:=List.mem_zipIdx' h
  obtain⟨h1,h2⟩:=this
  rw[h2]
  simp
 ·intro h
  refine⟨o,i,?_,rfl,rfl⟩
  rw[List.mem_zipIdx_iff_getElem?]
  simpa using h
theorem sA {d:Nat}:∀ {l:List Nat},C7 d l=true↔d∈l
 |[]=>by simp[C7]
 |x::l=>by
  simp only[C7,Bool.or_eq_true,sA,List.mem_cons]
  constructor
  ·rintro(h|h)
   ·exact .inl (Nat.beq_eq.mp h)
   ·exact .inr h
  ·rintro(h|h)
   ·exact .inl (Nat.beq_eq.mpr h)
   ·exact .inr h
theorem nQ {o:Oper}{i:Nat}:bS o i=true↔∃e∈o.after,onB e=true∧e.on=i:=by
 unfold bS
 simp only[List.any_eq_true,Bool.and_eq_true,Array.mem_toList_iff]
 constructor
 ·rintro⟨e,h1,h2,h3⟩;exact⟨e,h1,h2,Nat.beq_eq.mp h3⟩
 ·rintro⟨e,h1,h2,h3⟩;exact⟨e,h1,h2,Nat.beq_eq.mpr h3⟩
theorem sr {done:Nat}{o:Oper}:vi done o=true↔∀e∈o.after,onB e=true→bit done e.on=true:=by
 unfold vi
 simp only[List.all_eq_true,Bool.or_eq_true,Bool.not_eq_true',Array.mem_toList_iff]
 constructor
 ·intro h e he hb
  rcases h e he with h|h
  ·rw[hb] at h;cases h
  ·exact h
 ·intro h e he
  cases hb:onB e
  ·exact .inl rfl
  ·exact .inr (h e he hb)
theorem jr (h:qF ops=true){i j d:Nat}{oi oj:Oper}(hi:ops[i]? =some oi)(hj:ops[j]? =some oj)(ha:mC oi=false)(hd:oi.dst=some d):
  (i=j→d∉oj.looksAt ops)∧(i≠j→oj.dst≠some d∧(d∈oj.looksAt ops→bS oj i=true)):=by
 have h1:=List.all_eq_true.mp h _ (gA.mpr hi)
 simp only[zQ,ha,hd,Bool.false_or,Bool.and_eq_true] at h1
 have h2:=List.all_eq_true.mp h1.1 _ (gA.mpr hj)
 unfold behind at h2
 split at h2
 ·rename_i hij
  have hij:=Nat.beq_eq.mp hij
  simp only at hij
  refine⟨fun _ hm=>?_,fun hne=>absurd hij hne⟩
  rw[sA.mpr hm] at h2;cases h2
 ·rename_i hij
  have hij:i≠j:=fun e=>by
   have:=Nat.beq_eq.mpr e
   simp only at hij
   rw[this] at hij;cases hij
  refine⟨fun e=>absurd e hij,fun _=>?_⟩
  simp only[Bool.and_eq_true,Bool.not_eq_true',Bool.or_eq_true] at h2
  refine⟨fun e=>?_,fun hm=>?_⟩
  ·have:=h2.1
   simp[isDst,e] at this
  ·rcases h2.2 with h3|h3
   ·rw[sA.mpr hm] at h3;cases h3
   ·exact h3
theorem zo (h:qF ops=true){i j d:Nat}{oi oj:Oper}(hi:ops[i]? =some oi)(hj:ops[j]? =some oj)(hl:m8 oi=true)(hd:oj.dst=some d)(hne:i≠j)(hm:d∈oi.looksAt ops):bS oi j=true:=by
 have h1:=List.all_eq_true.mp h _ (gA.mpr hi)
 simp only[zQ,Bool.and_eq_true,hl,Bool.not_true,Bool.false_or] at h1
 have h2:=List.all_eq_true.mp h1.2 _ (gA.mpr hj)
 simp only[BO,hd,Bool.or_eq_true,Bool.not_eq_true'] at h2
 rcases h2 with h2|h2|h2
 ·exact absurd (Nat.beq_eq.mp h2) hne
 ·rw[sA.mpr hm] at h2;cases h2
 ·exact h2
theorem jb {L:Array Bool}{i j:Nat}(hi:i<L.size):(L.setIfInBounds i true).getD j false=(L.getD j false||decide (i=j)):=by
 by_cases h:i=j
 ·subst h;simp[hi]
 ·simp[h,Array.getElem?_setIfInBounds_ne h]
theorem pT {L:Array Bool}(hs:L.size=ops.size){j:Nat}:j∈Region.ready .any ops L↔∃o,ops[j]? =some o∧L.getD j false=false∧∀e∈o.after,onB e=true→L.getD e.on false=true:=by
 rw[mem_ready]
 constructor
 ·rintro⟨h1,o,h2,h3⟩
  have hlt:j<L.size:=by rw[hs];exact(Array.getElem?_eq_some_iff.mp h2).1
  refine⟨o,h2,?_,fun e he hb=>h3 e he (by rw[yM];exact hb)⟩
  simp[hlt] at h1 ⊢;exact h1
 ·rintro⟨o,h2,h1,h3⟩
  have hlt:j<L.size:=by rw[hs];exact(Array.getElem?_eq_some_iff.mp h2).1
  refine⟨?_,o,h2,fun e he hb=>h3 e he (by rw[←yM];exact hb)⟩
  simp[hlt] at h1 ⊢;exact h1
end
theorem HR.lay {P:Program}{ι:Inj}{s:St}{w w':World}(h:HR P ι s w){b:Nat}{ab:AB}{o:Obj}(z:Nat)(hb:ι b=none)(hlt:b<s.nx)(hg:s.h.get b=some ab)(hh:w'.heap=w.heap.push o)(hbr:∀κ,ι.le κ→BR P κ w' w.heap.size (0,up z) ab):
  HR P (ι.at b (w.heap.size,0,up z)) s w':=by
 have hle:ι.le (ι.at b (w.heap.size,0,up z)):=Inj.yj hb
 have old:∀c x,c≠b→(ι.at b (w.heap.size,0,up z)) c=some x→ι c=some x:=fun c x hc hx=>by
  unfold Inj.at at hx;rwa [if_neg hc] at hx
 refine⟨fun g c hc=>?_,fun c cb d hx hs=>?_,fun c x hx=>?_,fun c cb d ab' hx hg'=>?_,fun c c' cb d d' ab1 ab2 h1 h2 g1 g2=>?_⟩
 ·obtain⟨h1,cs,e,fz,h2,h3⟩:=h.gl g c hc
  have hlt':=h.gl.lt hc
  refine⟨?_,cs,e,fz,by rw[hh,hY hlt'];exact h2,h3⟩
  rintro⟨b',d',ab',x1,x2⟩
  by_cases e:b'=b
  ·subst e;rw[Inj.db] at x1;cases x1;omega
  ·exact h1 ⟨b',d',ab',old b' _ e x1,x2⟩
 ·by_cases e:c=b
  ·subst e;rw[Inj.db] at hx;cases hx;rfl
  ·exact h.base c cb d (old c _ e hx) hs
 ·by_cases e:c=b
  ·rw[e];exact hlt
  ·exact h.dom c x (old c x e hx)
 ·by_cases e:c=b
  ·subst e
   rw[Inj.db] at hx;cases hx
   rw[hg] at hg';cases hg'
   exact hbr _ hle
  ·have hbr:=h.br c cb d ab' (old c _ e hx) hg'
   exact hbr.frame (by rw[hh];exact hY hbr.lt) hle
 ·by_cases e:c=b<;>by_cases e':c'=b
  ·rw[e,e']
  ·subst e;rw[Inj.db] at h1;cases h1
   have:=(h.br c' _ _ ab2 (old _ _ e' h2) g2).lt;omega
  ·subst e';rw[Inj.db] at h2;cases h2
   have:=(h.br c _ _ ab1 (old _ _ e h1) g1).lt;omega
  ·exact h.inj c c' cb d d' ab1 ab2 (old _ _ e h1) (old _ _ e' h2) g1 g2
theorem Ext.lay {ι₀ ι:Inj}{s₀ s:St}{w₀ w w':World}(h:Ext ι₀ s₀ w₀ ι s w){b:Nat}{o:Obj}(z:Nat)(hb:ι b=none)(hlt:s₀.nx≤b)(hh:w'.heap=w.heap.push o)(hkin:Kin w w'):
  Ext ι₀ s₀ w₀ (ι.at b (w.heap.size,0,up z)) s w':=by
 refine⟨Inj.le_trans h.le (Inj.yj hb),by rw[hh];have:=h.size;simp;omega,fun cb hcb ho=>?_,fun c hc=>?_,h.nx,h.kin.trans hkin,fun cb hcb j=>?_,fun cb=>?_⟩
 ·obtain⟨h1,h2⟩:=h.jn cb hcb ho
  refine⟨by rw[hh,hY (Nat.lt_of_lt_of_le hcb h.size)];exact h1,?_⟩
  rintro⟨c,d,ab,hx,hg⟩
  by_cases e:c=b
  ·subst e;rw[Inj.db] at hx;cases hx
   have:=h.size;omega
  ·unfold Inj.at at hx;rw[if_neg e] at hx
   exact h2 ⟨c,d,ab,hx,hg⟩
 ·rw[←h.old c hc]
  unfold Inj.at
  rw[if_neg (by omega)]
 ·rintro⟨c,d,ab,hx,hg,hj⟩
  refine h.wr cb hcb j ?_
  by_cases e:c=b
  ·subst e;rw[Inj.db] at hx;cases hx
   have:=h.size;omega
  ·unfold Inj.at at hx;rw[if_neg e] at hx
   exact⟨c,d,ab,hx,hg,hj⟩
 ·exact(h.kept cb).trans (.push (W:=fun _=>False) hh) fun _ h=>h.elim
theorem HR.ahead {P:Program}{ι:Inj}{s:St}{w:World}(h:HR P ι s w)(ab:AB):HR P ι (s.new ab).2 w:=by
 have hne:∀c x,ι c=some x→c≠s.nx:=fun c x hx e=>by
  have:=h.dom c x hx;omega
 have live:∀c x ab',ι c=some x→(s.new ab).2.h.get c=some ab'→s.h.get c=some ab':=fun c x ab' hx hg=>by
  rcases Tr.df hg with⟨e,_⟩|⟨_,hg⟩
  ·exact absurd e (hne c x hx)
  ·exact hg
 exact⟨fun g c hc=>let⟨h1,h2⟩:=h.gl g c hc;⟨fun⟨b',d',ab',x1,x2⟩=>h1 ⟨b',d',ab',x1,live b' _ _ x1 x2⟩,h2⟩,h.base,fun c x hx=>Nat.lt_succ_of_lt (h.dom c x hx),fun c cb d ab' hx hg=>h.br c cb d ab' hx (live c _ _ hx hg),fun c c' cb d d' ab1 ab2 h1 h2 g1 g2=>h.inj c c' cb d d' ab1 ab2 h1 h2 (live c _ _ h1 g1) (live c' _ _ h2 g2)⟩
theorem Ext.ahead {P:Program}{ι₀ ι:Inj}{s₀ s:St}{w₀ w:World}(h:Ext ι₀ s₀ w₀ ι s w)(hH:HR P ι s w)(ab:AB):Ext ι₀ s₀ w₀ ι (s.new ab).2 w:=by
 refine⟨h.le,h.size,fun cb hcb ho=>⟨(h.jn cb hcb ho).1,?_⟩,h.old,Nat.le_succ_of_le h.nx,h.kin,fun cb hcb j=>?_,h.kept⟩
 ·rintro⟨c,d,ab',hx,hg⟩
  have hne:c≠s.nx:=fun e=>by have:=hH.dom c _ hx;omega
  rcases Tr.df hg with⟨e,_⟩|⟨_,hg⟩
  ·exact hne e
  ·exact(h.jn cb hcb ho).2 ⟨c,d,ab',hx,hg⟩
 ·rintro⟨c,d,ab',hx,hg,hj⟩
  have hne:c≠s.nx:=fun e=>by have:=hH.dom c _ hx;omega
  rcases Tr.df hg with⟨e,_⟩|⟨_,hg⟩
  ·exact absurd e hne
  ·exact h.wr cb hcb j ⟨c,d,ab',hx,hg,hj⟩
end Go.Am
end
section
namespace Go.Am
structure PO (P:Program)(X:Ctx)(ops:Array Oper)(b0:Nat)(fr:Fr)(s:St)(p:bn):Prop where
 op:ops[p.i]? =some p.o
 na:mC p.o=false
 slot:∀d u,p.o.dst=some d→fr.t.get d=some u→u=p.v
 plain:p.laid=none→(bI ops fr p.o=some true∧(fZ X p.o fr s=some (.old p.v)∨fZ X p.o fr s=some (.pure p.v)))∨(bI ops fr p.o=some false∧p.v= .tup [])
 laid:∀b ab,p.laid=some (b,ab)→bI ops fr p.o=some true∧s.h.get b=some ab∧b0≤b∧b<s.nx∧m8 p.o=true∧
  ∃f,p.v=f b∧∀ι w (a:Act),(∀x∈p.o.op.operands,VR ι (fr.opd x) (a.eval x))→sn P ι w ((execOp a.eval p.o).run P w) ab f
def Hid (L:Array Bool)(pend:List bn)(k:Nat):Prop:=∃p∈pend,L.getD p.i false=false∧p.o.dst=some k
def Ord (L:Array Bool):List bn→Prop
 |[]=>True
 |p::l=>(∀e∈p.o.after,onB e=true→L.getD e.on false=true∨∃q∈l,q.i=e.on)∧Ord L l
structure DI (P:Program)(X:Ctx)(ops:Array Oper)(N:Nat)(ι₀:Inj)(s₀:St)(w₀:World)(done:Nat)(pend:List bn)(fr:Fr)(s:St)(L:Array Bool)(ι:Inj)(a:Act)(w:World):Prop where
 size:L.size=ops.size
 rng:∀i,bit done i=true→i<ops.size
 sub:∀i,L.getD i false=true→bit done i=true
 cov:∀i,bit done i=true→L.getD i false=true∨∃p∈pend,p.i=i
 pdone:∀p∈pend,bit done p.i=true
 po:∀p∈pend,PO P X ops s₀.nx fr s p
 out:∀p∈pend,∀b ab,p.laid=some (b,ab)→L.getD p.i false=false→ι b=none
 uniq:∀p∈pend,∀q∈pend,∀b x y,p.laid=some (b,x)→q.laid=some (b,y)→p.i=q.i
 one:∀p∈pend,∀q∈pend,p.i=q.i→p=q
 ord:Ord L pend
 frame:FRN N (Hid L pend) ι fr a
 heap:HR P ι s w
 ext:Ext ι₀ s₀ w₀ ι s w
theorem Ord.mono {L L':Array Bool}(h:∀i,L.getD i false=true→L'.getD i false=true):∀ {l:List bn},Ord L l→Ord L' l
 |[],_=>trivial
 | _::_,⟨h1,h2⟩=>⟨fun e he hb=>(h1 e he hb).imp (h _) id,h2.mono h⟩
theorem Ord.filter {L:Array Bool}{f:bn→Bool}:∀ {l:List bn},(∀p∈l,f p=false→L.getD p.i false=true)→Ord L l→Ord L (l.filter f)
 |[],_,_=>trivial
 |p::l,hf,⟨h1,h2⟩=>by
  have ih:=Ord.filter (f:=f) (fun q hq=>hf q (by simp[hq])) h2
  rw[List.filter_cons]
  split
  ·refine⟨fun e he hb=>?_,ih⟩
   rcases h1 e he hb with h|⟨q,hq,e'⟩
   ·exact .inl h
   ·cases hfq:f q
    ·exact .inl (e'▸hf q (by simp[hq]) hfq)
    ·exact .inr ⟨q,List.mem_filter.mpr ⟨hq,hfq⟩,e'⟩
  ·exact ih
theorem Ord.all {ops:Array Oper}{L:Array Bool}(hs:L.size=ops.size)(hr:Region.ready .any ops L=[]):∀ {l:List bn},(∀p∈l,ops[p.i]? =some p.o)→Ord L l→∀p∈l,L.getD p.i false=true
 |[],_,_,p,hp=>by cases hp
 |q::l,ho,⟨h1,h2⟩,p,hp=>by
  have ih:=Ord.all hs hr (fun p hp=>ho p (by simp[hp])) h2
  rcases List.mem_cons.mp hp with rfl|hp
  ·cases hL:L.getD p.i false
   ·have:p.i∈Region.ready .any ops L:=(pT hs).mpr ⟨p.o,ho p (by simp),hL,fun e he hb=>by
     rcases h1 e he hb with h|⟨q,hq,e'⟩
     ·exact h
     ·rw[←e'];exact ih q hq⟩
    rw[hr] at this;cases this
   ·rfl
  ·exact ih p hp
section
variable {P:Program}{X:Ctx}(hX:dU P X){ops:Array Oper}(hdraw:qF ops=true){N:Nat}(hN:N≤1000000000)(hdst:ops.toList.all (mH N)=true)
 {ι₀:Inj} {s₀:St} {w₀:World} {done:Nat} {pend:List bn} {fr:Fr} {s:St} {L:Array Bool} {ι:Inj} {a:Act} {w:World} {Q:Exit→Act→World→Prop} {K:Act→World→Prop}
theorem wZ {fr fr':Fr}{x:Operand}(h:∀t,x= .tmp t→fr'.t.get t=fr.t.get t):fr'.opd x=fr.opd x:=by
 cases x with
 |tmp t=>simp[Fr.opd,h t rfl]
 | _=>rfl
theorem sq {o:Oper}{x:Operand}{t:Nat}(hx:x∈o.op.operands)(ht:x= .tmp t):t∈o.looksAt ops:=by
 subst ht
 exact List.mem_append_left _ (List.mem_filterMap.2 ⟨.tmp t,by simpa using hx,rfl⟩)
theorem mI {fr fr':Fr}{o:Oper}(h:∀t∈o.looksAt ops,fr'.t.get t=fr.t.get t):bI ops fr' o=bI ops fr o:=by
 unfold bI
 cases hg:o.guard with
 |none=>rfl
 |some jw=>
  obtain⟨j,want⟩:=jw
  simp only
  unfold uZ
  cases hj:ops.toList[j]? with
  |none=>rfl
  |some g=>
   simp only
   cases hd:g.dst with
   |none=>rfl
   |some d=>
    simp only
    have hj':ops[j]? =some g:=by simpa using hj
    unfold z7
    rw[h d (by simp[Oper.looksAt,hg,hj',hd])]
include hdraw in
theorem DI.clear (h:DI P X ops N ι₀ s₀ w₀ done pend fr s L ι a w){j:Nat}{o:Oper}(hj:ops[j]? =some o)(hr:∀e∈o.after,onB e=true→L.getD e.on false=true):∀t∈o.looksAt ops,¬Hid L pend t:=by
 rintro t ht ⟨q,hq,hL,hd⟩
 have hpo:=h.po q hq
 have hap:=jr hdraw hpo.op hj hpo.na hd
 by_cases e:q.i=j
 ·exact hap.1 e ht
 ·obtain⟨e',he',hb,hon⟩:=nQ.mp ((hap.2 e).2 ht)
  have:=hr e' he' hb
  rw[hon,hL] at this;cases this
include hX hdraw hdst in
theorem DI.late {ro:Option Nat}(h:DI P X ops N ι₀ s₀ w₀ done pend fr s L ι a w){p:bn}(hp:p∈pend)(hL:L.getD p.i false=false)(hr:∀e∈p.o.after,onB e=true→L.getD e.on false=true)
  (hk:∀ι' a' w',DI P X ops N ι₀ s₀ w₀ done pend fr s (L.setIfInBounds p.i true) ι' a' w'→K a' w'):wpOpIn (FE P ro) 0 P ops Q p.i K a w:=by
 have hpo:=h.po p hp
 have hlt:p.i<L.size:=by rw[h.size];exact h.rng _ (h.pdone p hp)
 have hclr:=h.clear hdraw hpo.op hr
 have hdo:mH N p.o=true:=List.all_eq_true.mp hdst p.o (by rw[Array.mem_toList_iff];exact Array.mem_of_getElem? hpo.op)
 have he:∀x∈p.o.op.operands,VR ι (fr.opd x) (a.eval x):=fun x hx=>h.frame.opd x fun t ht=>hclr t (sq hx ht)
 have mono:∀i,L.getD i false=true→(L.setIfInBounds p.i true).getD i false=true:=fun i hi=>by rw[jb hlt,hi];rfl
 have unl:∀i,(L.setIfInBounds p.i true).getD i false=false→L.getD i false=false∧p.i≠i:=fun i hi=>by
  rw[jb hlt] at hi
  simpa using hi
 have fin:∀ {κ:Inj} {cv:Value} {w':World},ι.le κ→VR κ p.v cv→HR P κ s w'→Ext ι₀ s₀ w₀ κ s w'→(∀q∈pend,∀b ab,q.laid=some (b,ab)→q.i≠p.i→L.getD q.i false=false→κ b=none)→K (a.put p.o.dst cv) w':=by
  intro κ cv w' hle hv hH hE hout
  refine hk κ _ w' ⟨by simp[h.size],h.rng,fun i hi=>?_,fun i hi=>(h.cov i hi).imp (mono i) id,h.pdone,h.po,fun q hq b ab hl hq'=>hout q hq b ab hl (fun e=>(unl _ hq').2 e.symm) (unl _ hq').1,h.uniq,h.one,h.ord.mono mono,⟨fun k u hh hu=>?_,?_,?_⟩,hH,hE⟩
  ·rw[jb hlt] at hi
   rcases Bool.or_eq_true_iff.mp hi with hi|hi
   ·exact h.sub i hi
   ·have:p.i=i:=by simpa using hi
    rw[←this];exact h.pdone p hp
  ·by_cases e:p.o.dst=some k
   ·have hkN:=lN hdo e
    have:=hpo.slot k u e hu
    subst this
    rw[e,pI]
    exact⟨cv,by simp only;rw[Array.getElem?_setIfInBounds_self_of_lt (Nat.lt_of_lt_of_le hkN h.frame.n)],hv⟩
   ·have hnh:¬Hid L pend k:=fun⟨q,hq,hql,hqd⟩=>by
     refine hh ⟨q,hq,?_,hqd⟩
     rw[jb hlt,hql]
     simp only[Bool.false_or,decide_eq_false_iff_not]
     intro e'
     have:=h.one p hp q hq e'
     subst this
     exact e hqd
    obtain⟨c,h1,h2⟩:=h.frame.t k u hnh hu
    refine⟨c,?_,h2.mono hle⟩
    cases hd:p.o.dst with
    |none=>exact h1
    |some d=>
     rw[pI]
     simp only
     rw[Array.getElem?_setIfInBounds_ne (fun e'=>e (by rw[hd,e']))]
     exact h1
  ·have:=h.frame.d.mono hle
   cases p.o.dst<;>exact this
  ·have:=h.frame.n
   cases p.o.dst
   ·exact this
   ·simpa[pI] using this
 have hsem:p.o.semAt (FE P ro).round a.eval=execOp a.eval p.o:=Oper.semAt_eq _ _ _ fun c hc=>by
  have:=hpo.na
  simp[mC,hc] at this
 unfold wpOpIn
 simp only[hpo.op]
 cases hl:p.laid with
 |none=>
  rcases hpo.plain hl with⟨hw,hop⟩|⟨hw,hv⟩
  ·have hw:=iQ hw h.frame hclr
   simp only[hw,if_true]
   refine⟨wT hpo.na,?_⟩
   rw[hsem]
   have:∃cv,(execOp a.eval p.o).run P w= .ok (.value cv) w∧VR ι p.v cv:=by
    rcases hop with hop|hop
    ·exact de hX hop h.heap he
    ·exact de hX hop h.heap he
   obtain⟨cv,h1,h2⟩:=this
   rw[h1]
   exact fin ι.le_refl h2 h.heap h.ext fun q hq b ab hl _ hql=>h.out q hq b ab hl hql
  ·have hw:=iQ hw h.frame hclr
   simp only[hw,Bool.false_eq_true,if_false]
   exact⟨wT hpo.na,fin ι.le_refl (by rw[hv];simp[undef,VR,VRs]) h.heap h.ext fun q hq b ab hl _ hql=>h.out q hq b ab hl hql⟩
 |some bx=>
  obtain⟨b,ab⟩:=bx
  obtain⟨hw,hg,hb0,hbs,_,f,hv,hlay⟩:=hpo.laid b ab hl
  have hw:=iQ hw h.frame hclr
  simp only[hw,if_true]
  refine⟨wT hpo.na,?_⟩
  rw[hsem]
  obtain⟨o,z,cv,w',h1,h2,h5,h3,h4⟩:=hlay ι w a he
  rw[h1]
  have hb:=h.out p hp b ab hl hL
  refine fin (Inj.yj hb) ?_ (h.heap.lay z hb hbs hg h2 h3) (h.ext.lay z hb hb0 h2 h5) fun q hq b' ab' hl' hne hql=>?_
  ·rw[hv];exact h4 _ _ (Inj.db _ _ _)
  ·have hbb:b'≠b:=fun e=>by subst e;exact hne (h.uniq q hq p hp b' ab' ab hl' hl)
   unfold Inj.at
   rw[if_neg hbb]
   exact h.out q hq b' ab' hl' hql
end
end Go.Am
end
