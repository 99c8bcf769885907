/-
  A part of the texts.
-/
import Derived.Test.YtofohkdkpbigiaaQad
section
namespace Go.Am
section
variable {P:Program}{X:Ctx}(hX:dU P X){ι:Inj}{s:St}{w:World}
theorem iv {a:Option (Nat×Nat×Nat)}{n c:Nat}{x:Bool}{cv:Value}(h:VR ι (.slc a n c x) cv):∃p m,cv= .slice p n m∧c≤m∧n≤c∧(x=true→m=c)∧(a=none→p=none∧n=0∧c=0):=by
 cases a with
 |none=>simp only[VR] at h;obtain⟨rfl,rfl,rfl,rfl⟩:=h;exact⟨none,0,rfl,Nat.le_refl _,Nat.le_refl _,fun _=>rfl,fun _=>⟨rfl,rfl,rfl⟩⟩
 |some p=>obtain⟨b,o,es⟩:=p;simp only[VR] at h;obtain⟨cb,d,off,m,_,rfl,_,h1,h2,h3,_⟩:=h;exact⟨_,m,rfl,h2,h1,h3,fun e=>by cases e⟩
include hX in
theorem sR {t:TypeId}{x:AV}{i:Nat}{cx:Value}{r:OR}(h:af X t x i=some r)(hx:VR ι x cx):iX P ι s w r ((do pure (.value (←Instr.fieldAt t cx i)):Sem Next).run P w):=by
 unfold af at h
 split at h
 ·rename_i g off
  simp only[VR] at hx
  subst hx
  split at h
  ·rename_i fs hu
   unfold we at h
   split at h
   ·rename_i f hf
    have hf':fs[i]? =some f:=by simpa using hf
    split at h
    ·cases h
    ·rename_i n hn
     cases h
     refine⟨.pointer (some ⟨g,off+f.offset,none⟩),bt ?_,by simp only[VR]⟩
     simp only[Instr.fieldAt,Sem.run_bind,aL hX hu,Result.andThen_ok,hf',Instr.sureAddr,Sem.run_pure,fieldPlace,cO hX hn,Nat.succ_ne_zero,if_false,add_eq]
    ·cases h
   ·cases h
  ·cases h
 ·rename_i b off
  obtain⟨c,d,hb,rfl⟩:=hx.ptr
  split at h
  ·rename_i fs hu
   unfold bh at h
   split at h
   ·rename_i f hf
    have hf':fs[i]? =some f:=by simpa using hf
    split at h
    ·cases h
    ·rename_i n hn
     cases h
     refine⟨.pointer (some ⟨c,d.1+(off+f.offset),none⟩),bt ?_,by simp only[VR];exact⟨c,d,hb,rfl⟩⟩
     simp only[Instr.fieldAt,Sem.run_bind,aL hX hu,Result.andThen_ok,hf',Instr.sureAddr,Sem.run_pure,fieldPlace,cO hX hn,Nat.succ_ne_zero,if_false,add_eq,Nat.add_assoc]
    ·cases h
   ·cases h
  ·cases h
 ·cases h
include hX in
theorem xd {t:TypeId}{x:AV}{i:Nat}{cx:Value}{r:OR}(h:sj X t x i=some r)(hx:VR ι x cx):iX P ι s w r ((do pure (.value (←Instr.field t cx i)):Sem Next).run P w):=by
 unfold sj at h
 split at h
 ·rename_i fs cs hu
  obtain⟨ccs,rfl,hcs⟩:=hx.agg
  split at h
  ·rename_i f hf
   have hf':fs[i]? =some f:=by simpa using hf
   refine nZ h fun v hv=>?_
   obtain⟨cv,h1,h2⟩:=mD hX (w:=w) hv hcs
   exact⟨cv,by simp only[Instr.field,Sem.run_bind,aL hX hu,Result.andThen_ok,hf',asAgg,Sem.run_pure,h1],h2⟩
  ·cases h
 ·cases h
include hX in
theorem sO {t:TypeId}{x i:AV}{cx ci:Value}{r:OR}(h:fh X t x i=some r)(hx:VR ι x cx)(hi:VR ι i ci):iX P ι s w r ((do pure (.value (←Instr.indexAt t cx ci)):Sem Next).run P w):=by
 unfold fh at h
 split at h
 ·rename_i n elem b off kk k hu
  obtain⟨c,d,hb,rfl⟩:=hx.ptr
  have e:=hi.int;subst e
  unfold tA at h
  split at h
  ·rename_i m hm hlt
   have hlt:=Nat.blt_eq.mp hlt
   cases h
   refine⟨.pointer (some ⟨c,d.1+(off+k*m),none⟩),bt ?_,by simp only[VR];exact⟨c,d,hb,rfl⟩⟩
   have hin:(0≤(k:Int)∧(k:Int)<(n:Int))=True:=by simp;omega
   simp only[Instr.indexAt,Sem.run_bind,asIntOf,Sem.run_pure,Result.andThen_ok,aL hX hu,Instr.sureAddr,hin,if_true,cO hX hm,add_eq,Sem.run_ite,Int.ofNat_eq_natCast,Int.toNat_natCast,Nat.add_assoc]
  ·cases h
 ·rename_i n elem g off kk k hu
  simp only[VR] at hx
  subst hx
  have e:=hi.int;subst e
  unfold z5 at h
  split at h
  ·rename_i m hm hlt
   have hlt:=Nat.blt_eq.mp hlt
   cases h
   refine⟨.pointer (some ⟨g,off+k*m,none⟩),bt ?_,by simp only[VR]⟩
   have hin:(0≤(k:Int)∧(k:Int)<(n:Int))=True:=by simp;omega
   simp only[Instr.indexAt,Sem.run_bind,asIntOf,Sem.run_pure,Result.andThen_ok,aL hX hu,Instr.sureAddr,hin,if_true,cO hX hm,add_eq,Sem.run_ite,Int.ofNat_eq_natCast,Int.toNat_natCast]
  ·cases h
 ·rename_i elem b off es n cc x kk k hu
  simp only[VR] at hx
  obtain⟨cb,d,o,m0,hb,rfl,ho,hn,hc,hxx,_⟩:=hx
  have e:=hi.int;subst e
  unfold tA at h
  split at h
  ·rename_i m hm hlt
   have hlt:=Nat.blt_eq.mp hlt
   cases h
   have ho:=ho (.inl (by omega))
   subst ho
   refine⟨.pointer (some ⟨cb,d.1+(off+k*m),none⟩),bt ?_,by simp only[VR];exact⟨cb,d,hb,rfl⟩⟩
   have hin:(0≤(k:Int)∧(k:Int)<(n:Int))=True:=by simp;omega
   simp only[Instr.indexAt,Sem.run_bind,asIntOf,Sem.run_pure,Result.andThen_ok,aL hX hu,hin,if_true,cO hX hm,add_eq,Sem.run_ite,Int.ofNat_eq_natCast,Int.toNat_natCast,Nat.add_assoc]
  ·cases h
 ·cases h
theorem GM {bs:ByteArray}{k:Nat}(hk:k<bs.data.toList.length):(Str.of bs).at k=(bs.data.toList[k]).toNat:=by
 simp only[Str.at,Str.of]
 exact HJ _ k hk
include hX in
theorem xM {t:TypeId}{x i:AV}{cx ci:Value}{r:OR}(h:mL X t x i=some r)(hx:VR ι x cx)(hi:VR ι i ci):iX P ι s w r ((do pure (.value (←Instr.index t cx ci)):Sem Next).run P w):=by
 unfold mL at h
 split at h
 ·rename_i v kk k hu
  obtain⟨bs,rfl,rfl⟩:=hx.str
  have e:=hi.int;subst e
  split at h
  ·rename_i hlt
   have hlt:k<bs.data.toList.length:=Nat.blt_eq.mp hlt
   cases h
   refine⟨.int .u8 ((bs.data.toList[k]).toNat:Int),bt ?_,by simp only[VR,GM hlt]⟩
   have hk':k<bs.size:=by simpa using hlt
   have hg:bs[k]? =some (bs.data.toList[k]):=by
    rw[getElem?_pos bs k hk']
    simp[ByteArray.getElem_eq_getElem_data]
   simp only[Instr.index,Sem.run_bind,asIntOf,Sem.run_pure,Result.andThen_ok,aL hX hu,Int.ofNat_eq_natCast,Int.natCast_nonneg,if_true,Int.toNat_natCast,hg]
  ·cases h
 ·rename_i n elem cs kk k hu
  obtain⟨ccs,rfl,hcs⟩:=hx.agg
  have e:=hi.int;subst e
  unfold vp at h
  split at h
  ·rename_i m hm hlt
   have hlt:=Nat.blt_eq.mp hlt
   refine nZ h fun v hv=>?_
   obtain⟨cv,h1,h2⟩:=mD hX (w:=w) hv hcs
   have hin:(0≤(k:Int)∧(k:Int)<(n:Int))=True:=by simp;omega
   exact⟨cv,by simp only[Instr.index,Sem.run_bind,asIntOf,Sem.run_pure,Result.andThen_ok,aL hX hu,hin,if_true,cO hX hm,Sem.run_ite,Int.ofNat_eq_natCast,Int.toNat_natCast,h1],h2⟩
  ·cases h
 ·cases h
theorem uv {x:AV}{i:Nat}{cx:Value}{r:OR}(h:lH x i=some r)(hx:VR ι x cx):iX P ι s w r ((do pure (.value (←Instr.extract cx i)):Sem Next).run P w):=by
 unfold lH at h
 split at h
 ·rename_i vs
  obtain⟨cvs,rfl,hcs⟩:=hx.tup
  refine nZ h fun v hv=>?_
  obtain⟨cv,h1,h2⟩:=hcs.get hv
  have h1:cvs[i]? =some cv:=by simpa using h1
  exact⟨cv,by simp[Instr.extract,h1],h2⟩
 ·cases h
theorem jV {ok:Bool}{v:AV}{b:Bool}{cv:Value}{r:OR}{x:Sem Value}(h:oR ok v b=some r)(hv:VR ι v cv)(hx:x.run P w= .ok (if ok then .tuple #[cv, .bool b] else cv) w):
  iX P ι s w r ((do pure (.value (←x)):Sem Next).run P w):=by
 unfold oR at h
 cases ok
 ·cases h;exact⟨cv,bt (by simpa using hx),hv⟩
 ·cases h;exact⟨.tuple #[cv, .bool b],bt (by simpa using hx),by simp only[VR];exact⟨_,rfl,by simp[VRs,hv,VR]⟩⟩
include hX in
theorem wK {x:AV}{xt u:TypeId}{ok:Bool}{cx:Value}{r:OR}(h:rT X x u ok=some r)(hx:VR ι x cx):iX P ι s w r ((do pure (.value (←Instr.typeAssert cx xt u ok)):Sem Next).run P w):=by
 unfold rT at h
 split at h
 ·cases h
 ·rename_i d t' v hne hu
  simp only[VR] at hx
  obtain⟨cv,rfl,hv⟩:=hx
  have hni:∀ms,d≠ .interface ms:=fun ms e=>hne ms e
  split at h
  ·rename_i ht
   have ht:=of_decide_eq_true ht
   subst ht
   refine jV (cv:=cv) h hv ?_
   simp only[Instr.typeAssert,Sem.run_bind,aL hX hu,Result.andThen_ok]
   cases d<;>first|(cases ok<;>simp;done)|exact absurd rfl (hni _)
  ·rename_i ht
   have ht:t'≠u:=of_decide_eq_false ht
   unfold zL at h
   split at h
   ·split at h
    ·rename_i z hz
     cases h
     obtain⟨cz,h1,rfl⟩:=fA hX hz w
     refine⟨.tuple #[cz, .bool false],bt ?_,by simp only[VR];exact⟨_,rfl,by simp[VRs,VR,jJ]⟩⟩
     simp only[Instr.typeAssert,Sem.run_bind,aL hX hu,Result.andThen_ok]
     cases d<;>first|(simp[ht,h1];done)|exact absurd rfl (hni _)
    ·cases h
   ·cases h
 ·rename_i d hne hu
  simp only[VR] at hx;subst hx
  have hni:∀ms,d≠ .interface ms:=fun ms e=>hne ms e
  unfold zL at h
  split at h
  ·split at h
   ·rename_i z hz
    cases h
    obtain⟨cz,h1,rfl⟩:=fA hX hz w
    refine⟨.tuple #[cz, .bool false],bt ?_,by simp only[VR];exact⟨_,rfl,by simp[VRs,VR,jJ]⟩⟩
    simp only[Instr.typeAssert,Sem.run_bind,aL hX hu,Result.andThen_ok]
    cases d<;>first|(simp[h1];done)|exact absurd rfl (hni _)
   ·cases h
  ·cases h
 ·cases h
theorem fq {v:AV}{y i:Nat}{cv:Value}{code:BoundsCode}(h:kR v y=some i)(hv:VR ι v cv):∃k,cv= .int k i∧i≤y∧(Instr.sliceBound cv y code).run P w= .ok i w:=by
 unfold kR at h
 split at h
 ·rename_i k j
  split at h
  ·rename_i hle
   have hle:=Nat.ble_eq.mp hle
   cases h
   have e:=hv.int;subst e
   refine⟨k,rfl,hle,?_⟩
   have hin:(0≤(i:Int)∧(i:Int)≤(y:Int))=True:=by simp;omega
   simp only[Instr.sliceBound,Sem.run_bind,asIntOf,Sem.run_pure,Result.andThen_ok,hin,if_true,Sem.run_ite,Int.ofNat_eq_natCast,Int.toNat_natCast]
  ·cases h
 ·cases h
theorem so {v:AV}{y z i:Nat}{cv:Value}{code:BoundsCode}(h:kR v y=some i)(hz:y≤z)(hv:VR ι v cv):(Instr.sliceBound cv z code).run P w= .ok i w:=by
 obtain⟨k,rfl,hi,_⟩:=fq (P:=P) (w:=w) (code:=code) h hv
 have hin:(0≤(i:Int)∧(i:Int)≤(z:Int))=True:=by simp;omega
 simp only[Instr.sliceBound,Sem.run_bind,asIntOf,Sem.run_pure,Result.andThen_ok,hin,if_true,Sem.run_ite,Int.toNat_natCast]
def VRo (ι:Inj):Option AV→Option Value→Prop
 |none,none=>True
 |some a,some v=>VR ι a v
 | _,_=>False
theorem VRo.of_map {fr:Fr}{a:Act}(o:Option Operand)(hf:∀x,o=some x→VR ι (fr.opd x) (a.eval x)):VRo ι (o.map fr.opd) (o.map a.eval):=by
 cases o with
 |none=>trivial
 |some x=>exact hf x rfl
theorem pA {lo hi mx:Option AV}{clo chi cmx:Option Value}{len cap ccap m h l:Nat}{isS:Bool}(hlo:VRo ι lo clo)(hhi:VRo ι hi chi)(hmx:VRo ι mx cmx)(hcap:cap≤ccap)
  (eb:oQ lo hi mx len cap=some (l,h,m))(hlen:len≤cap):
  ∃M,(Instr.sliceBounds isS len ccap clo chi cmx).run P w= .ok (l,h,M) w∧(mx=none→m=cap∧M=ccap)∧(mx≠none→M=m∧m≤cap)∧l≤h∧h≤m:=by
 unfold oQ at eb
 split at eb
 ·rename_i m' em
  split at eb
  ·rename_i h' eh
   split at eb
   ·rename_i l' el
    cases eb
    have hl:l≤h∧∀code,(match clo with|some v=>Instr.sliceBound v h code|none=>pure 0:Sem Nat).run P w= .ok l w:=by
     cases lo with
     |none=>cases clo with
      |none=>cases el;exact⟨Nat.zero_le _,fun _=>rfl⟩
      |some _=>exact hlo.elim
     |some v=>cases clo with
      |none=>exact hlo.elim
      |some cv=>exact⟨(fq (P:=P) (w:=w) (code:= .sliceB) el hlo).choose_spec.2.1,fun code=>(fq (P:=P) (w:=w) (code:=code) el hlo).choose_spec.2.2⟩
    cases mx with
    |none=>
     cases cmx with
     |some _=>exact hmx.elim
     |none=>
      cases em
      cases hi with
      |none=>cases chi with
       |some _=>exact hhi.elim
       |none=>
        cases eh
        refine⟨ccap,?_,fun _=>⟨rfl,rfl⟩,fun e=>absurd rfl e,hl.1,hlen⟩
        have h2:=hl.2 .sliceB
        cases clo with
        |none=>simp only[Sem.run_pure,Result.ok.injEq] at h2;simp[Instr.sliceBounds,h2.1]
        |some cv=>simp only at h2;simp[Instr.sliceBounds,h2]
      |some v=>cases chi with
       |none=>exact hhi.elim
       |some cv=>
        obtain⟨k,rfl,hle,_⟩:=fq (P:=P) (w:=w) (code:= .sliceAcap) eh hhi
        have h1:=fun code=>so (P:=P) (w:=w) (code:=code) eh hcap hhi
        refine⟨ccap,?_,fun _=>⟨rfl,rfl⟩,fun e=>absurd rfl e,hl.1,hle⟩
        have h2:=hl.2 .sliceB
        cases clo with
        |none=>simp only[Sem.run_pure,Result.ok.injEq] at h2;simp[Instr.sliceBounds,h2.1,h1]
        |some cv=>simp only at h2;simp[Instr.sliceBounds,h2,h1]
    |some u=>
     cases cmx with
     |none=>exact hmx.elim
     |some cu=>
      have hmle:=(fq (P:=P) (w:=w) (code:= .slice3Acap) em hmx).choose_spec.2.1
      have h0:=fun code=>so (P:=P) (w:=w) (code:=code) em hcap hmx
      cases hi with
      |none=>simp[ob] at eh
      |some v=>cases chi with
       |none=>exact hhi.elim
       |some cv=>
        obtain⟨k,rfl,hle,_⟩:=fq (P:=P) (w:=w) (code:= .slice3B) eh hhi
        have h1:=fun code=>(fq (P:=P) (w:=w) (code:=code) eh hhi).choose_spec.2.2
        refine⟨m,?_,fun e=>(by cases e),fun _=>⟨rfl,hmle⟩,hl.1,hle⟩
        have h2:=hl.2 .slice3C
        cases clo with
        |none=>simp only[Sem.run_pure,Result.ok.injEq] at h2;simp[Instr.sliceBounds,h2.1,h0,h1]
        |some cv=>simp only at h2;simp[Instr.sliceBounds,h2,h0,h1]
   ·cases eb
  ·cases eb
 ·cases eb
theorem zE {a:Option (Nat×Nat×Nat)}{size l hh m M len cap ccap:Nat}{ex exact:Bool}{v:AV}{p:Option Addr}(h:mW a size l hh m ex=some v)(hx:VR ι (.slc a len cap exact) (.slice p len ccap))
  (hexx:ex=true→(0<cap∨exact=true)∧M=m)(hmM:m≤M)(hMc:M≤ccap)(hmc:m≤cap)(h4:l≤hh)(h5:hh≤m):
  VR ι v (.slice (if M=l then p else p.map (·.add (l*size))) (hh- l) (M- l)):=by
 unfold mW at h
 split at h
 ·simp only[VR] at hx
  obtain⟨rfl,rfl,_,hcv⟩:=hx
  simp only[Value.slice.injEq,true_and] at hcv
  obtain⟨rfl,rfl⟩:=hcv
  cases h
  have e1:M=0:=by omega
  have e2:hh=0:=by omega
  have e3:l=0:=by omega
  have e4:m=0:=by omega
  subst e1;subst e2;subst e3;subst e4
  simp[VR]
 ·rename_i b off es
  simp only[VR] at hx
  obtain⟨cb,d,o,m0,hb,hcv,ho,_,_,_,hroom⟩:=hx
  simp only[Value.slice.injEq,true_and] at hcv
  obtain⟨rfl,rfl⟩:=hcv
  have room:∀k,k≤ccap→k*es≤ccap*es:=fun k hk=>Nat.mul_le_mul_right _ hk
  cases hes:Nat.beq es size with
  |false=>simp[hes] at h
  |true=>
  cases hl0:Nat.beq l 0 with
  |true=>
   simp only[hes,hl0,Option.some.injEq] at h
   have hes:=Nat.beq_eq.mp hes
   have hl0:=Nat.beq_eq.mp hl0
   subst hl0;subst hes
   subst h
   have ep:(if M=0 then(some (⟨cb,o,none⟩:Addr)) else(some (⟨cb,o,none⟩:Addr)).map (·.add (0*es)))=some ⟨cb,o,none⟩:=by
    split
    ·rfl
    ·simp[add_eq]
   rw[ep]
   simp only[VR,Nat.sub_zero]
   have:=room M hMc
   exact⟨cb,d,o,M,hb,rfl,fun hc=>ho (hc.elim (fun hc=> .inl (by omega)) fun hc=>(hexx hc).1),h5,hmM,fun e=>(hexx e).2,fun j h1 h2=>hroom j (by omega) (by omega)⟩
  |false=>
  cases hml:Nat.beq m l with
  |false=>
   simp only[hes,hl0,hml,Option.some.injEq] at h
   have hes:=Nat.beq_eq.mp hes
   subst hes
   have hl0:l≠0:=fun e=>by rw[e] at hl0;simp at hl0
   have hml:m≠l:=fun e=>by rw[e] at hml;simp at hml
   subst h
   have hM:M≠l:=by omega
   rw[if_neg hM]
   simp only[Option.map_some,add_eq,VR]
   have ho:=ho (.inl (by omega))
   have e1:l*es+(M- l)*es=M*es:=by rw[←Nat.add_mul];congr 1;omega
   have:=room M hMc
   exact⟨cb,d,o+l*es,M- l,hb,rfl,fun _=>by omega,by omega,by omega,fun e=>by have:=(hexx e).2;omega,fun j h1 h2=>hroom j (by omega) (by omega)⟩
  |true=>
  cases hx':ex with
  |true=>
   simp only[hes,hl0,hml,hx',Option.some.injEq] at h
   have hes:=Nat.beq_eq.mp hes
   subst hes
   have hml:=Nat.beq_eq.mp hml
   have hl0:l≠0:=fun e=>by rw[e] at hl0;simp at hl0
   subst h
   have hM:=(hexx hx').2
   rw[if_pos (by omega)]
   simp only[VR]
   have ho:=ho (.inl (by omega))
   have:=room (M- l) (by omega)
   exact⟨cb,d,o,M- l,hb,rfl,fun _=>ho,by omega,by omega,fun _=>by omega,fun j h1 h2=>hroom j (by omega) (by omega)⟩
  |false=>
   simp only[hes,hl0,hml,hx',Option.some.injEq] at h
   have hes:=Nat.beq_eq.mp hes
   subst hes
   have hml:=Nat.beq_eq.mp hml
   subst h
   have e0:hh- l=0:=by omega
   rw[e0]
   by_cases hM:M=l
   ·rw[if_pos hM]
    simp only[VR]
    have:=room (M- l) (by omega)
    exact⟨cb,d,o,M- l,hb,rfl,fun hc=>by simp at hc,by omega,by omega,fun e=>by simp at e,fun j h1 h2=>hroom j (by omega) (by omega)⟩
   ·rw[if_neg hM]
    simp only[Option.map_some,add_eq,VR]
    have e1:l*es+(M- l)*es=M*es:=by rw[←Nat.add_mul];congr 1;omega
    have:=room M hMc
    exact⟨cb,d,o+l*es,M- l,hb,rfl,fun hc=>by simp at hc,by omega,by omega,fun e=>by simp at e,fun j h1 h2=>hroom j (by omega) (by omega)⟩
theorem D3 {bs:ByteArray}{l h:Nat}(h2:h≤bs.data.toList.length):(Str.of bs).sub l h=Str.of (bs.extract l h):=by
 have e:(bs.extract l h).data.toList=(bs.data.toList.take h).drop l:=by
  rw[ByteArray.data_extract,Array.toList_extract,List.extract_eq_take_drop,List.drop_take]
 have e2:(bs.data.toList.take h).length=h:=by rw[List.length_take];exact Nat.min_eq_left h2
 simp only[Str.sub,Str.of,e,Str.mk.injEq,List.length_drop,e2,true_and]
 rw[Fh,tD,e2]
include hX in
theorem wO {t:TypeId}{x v:AV}{lo hi mx:Option AV}{cx:Value}{clo chi cmx:Option Value}(h:cP X s t x lo hi mx=some v)(hH:HR P ι s w)(hx:VR ι x cx)(hlo:VRo ι lo clo)(hhi:VRo ι hi chi)(hmx:VRo ι mx cmx):
  ∃cv,(Instr.sliceAt t cx clo chi cmx).run P w= .ok cv w∧VR ι v cv:=by
 unfold cP at h
 split at h
 ·rename_i a hu
  obtain⟨bs,rfl,rfl⟩:=hx.str
  split at h
  ·cases h
  ·unfold sw at h
   split at h
   ·rename_i l hh m eb
    cases h
    cases cmx with
    |some _=>exact hmx.elim
    |none=>
     have hsz:(Str.of bs).len=bs.size:=by simp[Str.of]
     rw[hsz] at eb
     obtain⟨M,h1,h2,_,h4,h5⟩:=pA (P:=P) (w:=w) (isS:=false) (ccap:=bs.size) hlo hhi hmx (Nat.le_refl _) eb (Nat.le_refl _)
     have h2:=(h2 rfl).1
     refine⟨.string (bs.extract l hh),?_,?_⟩
     ·simp only[Instr.sliceAt,Sem.run_bind,aL hX hu,Result.andThen_ok,Instr.slice,Option.isSome_none,Bool.false_eq_true,if_false,Sem.run_pure,h1]
     ·simp only[VR];exact⟨_,rfl,D3 (by subst h2;simpa using h5)⟩
   ·cases h
 ·rename_i elem a len cap exact hu
  unfold qO at h
  split at h
  ·rename_i l hh m eb
   split at h
   ·rename_i size hsize
    obtain⟨p,ccap,rfl,hcap,hlen,hex,hnil⟩:=iv hx
    obtain⟨M,h1,h2,h3,h4,h5⟩:=pA (P:=P) (w:=w) (isS:=true) hlo hhi hmx hcap eb hlen
    have hrun:(Instr.sliceAt t (.slice p len ccap) clo chi cmx).run P w= .ok (.slice (if M=l then p else p.map (·.add (l*size))) (hh- l) (M- l)) w:=by
     simp only[Instr.sliceAt,Sem.run_bind,aL hX hu,Result.andThen_ok,Instr.slice,h1,cO hX hsize,Sem.run_pure]
    have hmM:m≤M:=by
     by_cases e:mx=none
     ·obtain⟨a1,a2⟩:=h2 e;omega
     ·exact(h3 e).1▸Nat.le_refl _
    have hMc:M≤ccap:=by
     by_cases e:mx=none
     ·exact(h2 e).2▸Nat.le_refl _
     ·obtain⟨a1,a2⟩:=h3 e;omega
    have hmc:m≤cap:=by
     by_cases e:mx=none
     ·exact(h2 e).1▸Nat.le_refl _
     ·exact(h3 e).2
    have hexx:AP mx exact cap=true→(0<cap∨exact=true)∧M=m:=fun e=>by
     unfold AP at e
     split at e
     ·rw[Bool.or_eq_true] at e
      exact⟨e.elim .inr fun e=> .inl (Nat.blt_eq.mp e),(h3 (by simp)).1⟩
     ·have:=hex e
      have:=h2 rfl
      exact⟨.inr e,by omega⟩
    exact⟨_,hrun,zE h hx hexx hmM hMc hmc h4 h5⟩
   ·cases h
  ·cases h
 ·rename_i n elem b off hu
  unfold Co at h
  split at h
  ·rename_i l hh m eb
   split at h
   ·rename_i size c k hsize hc
    have main:∀ {u:List AV},(Nat.blt 0 size&&Nat.blt 0 n)=true→ldL c off (n*size)=some u→
      ∃cb d M,ι b=some (cb,d)∧(Instr.sliceAt t cx clo chi cmx).run P w= .ok (.slice (some (if M=l then⟨cb,d.1+off,none⟩ else(⟨cb,d.1+off+l*size,none⟩:Addr))) (hh- l) (M- l)) w∧M=m∧l≤hh∧hh≤m∧m≤n∧∀j,d.1+off≤j→j<d.1+off+n*size→d.2 j:=fun{u} hpos hu'=>by
     rw[Bool.and_eq_true] at hpos
     have hp1:=Nat.blt_eq.mp hpos.1
     have hp2:=Nat.blt_eq.mp hpos.2
     obtain⟨cb,d,hb,rfl⟩:=hx.ptr
     obtain⟨cs,e',fz,k1,k2,k3⟩:=hH.cells hb hc
     obtain⟨q1,q2⟩:=mo hu'
     have hroom:∀j,d.1+off≤j→j<d.1+off+n*size→d.2 j:=fun j h1 h2=>by
      have hj:j- (d.1+off)<u.length:=by omega
      obtain⟨_,z,_⟩:=k3 _ _ (q2 _ _ (List.getElem?_eq_getElem hj))
      rwa [show d.1+(off+(j- (d.1+off)))=j by omega] at z
     obtain⟨M,h1,h2,h3,h4,h5⟩:=pA (P:=P) (w:=w) (isS:=false) hlo hhi hmx (Nat.le_refl n) eb (Nat.le_refl n)
     have hM:M=m∧m≤n:=by
      by_cases e:mx=none
      ·obtain⟨a1,a2⟩:=h2 e;omega
      ·exact h3 e
     refine⟨cb,d,M,hb,?_,hM.1,h4,h5,hM.2,hroom⟩
     simp only[Instr.sliceAt,Sem.run_bind,aL hX hu,Result.andThen_ok,Instr.sureAddr,Sem.run_pure,h1,cO hX hsize,add_eq]
    split at h
    ·rename_i hpos hml hu'
     obtain⟨cb,d,M,hb,hrun,rfl,h4,h5,hmn,hroom⟩:=main hpos hu'
     have hml:=Nat.beq_eq.mp hml
     cases h
     refine⟨_,hrun,?_⟩
     rw[if_pos hml]
     simp only[VR]
     have e2:(M- l)*size≤n*size:=Nat.mul_le_mul_right _ (by omega)
     exact⟨cb,d,d.1+off,M- l,hb,rfl,fun _=>rfl,by omega,Nat.le_refl _,fun _=>rfl,fun j h1 h2=>hroom j (by omega) (by omega)⟩
    ·rename_i hpos hml hu'
     obtain⟨cb,d,M,hb,hrun,rfl,h4,h5,hmn,hroom⟩:=main hpos hu'
     have hml:M≠l:=fun e=>by rw[e] at hml;simp at hml
     cases h
     refine⟨_,hrun,?_⟩
     rw[if_neg hml]
     simp only[VR]
     have e1:l*size+(M- l)*size=M*size:=by rw[←Nat.add_mul];congr 1;omega
     have e3:M*size≤n*size:=Nat.mul_le_mul_right _ hmn
     exact⟨cb,d,d.1+off+l*size,M- l,hb,rfl,fun _=>by omega,by omega,Nat.le_refl _,fun _=>rfl,fun j h1 h2=>hroom j (by omega) (by omega)⟩
    ·cases h
   ·cases h
  ·cases h
 ·cases h
end
end Go.Am
end
section
namespace Go.Am
section
variable {P:Program}{X:Ctx}(hX:dU P X){ι:Inj}{s:St}{w:World}
theorem wM {k a:AV}(h:fx k a=some true):a=k:=by
 unfold fx at h
 split at h
 ·split at h
  ·rename_i hj;simp at h;rw[hj,h]
  ·cases h
 ·simp only[Option.some.injEq] at h
  rename_i x y
  unfold Str.beq at h
  rw[Bool.and_eq_true] at h
  have h1:=Nat.beq_eq.mp h.1
  have h2:=Nat.beq_eq.mp h.2
  cases x;cases y;simp only at h1 h2;rw[h1,h2]
 ·simp at h;rw[h]
 ·cases h
theorem Str.beq_comm (x y:Str):x.beq y=y.beq x:=by
 rw[Bool.eq_iff_iff]
 simp only[Str.beq,Bool.and_eq_true,Nat.beq_eq]
 exact⟨fun h=>⟨h.1.symm,h.2.symm⟩,fun h=>⟨h.1.symm,h.2.symm⟩⟩
theorem vT (a b:AV):fx a b=fx b a:=by
 cases a<;>cases b<;>try rfl
 ·rename_i x y;cases x<;>cases y<;>rfl
 ·rename_i j x k y
  simp only[fx]
  by_cases h:j=k
  ·subst h;simp only[if_true,Option.some.injEq];exact decide_eq_decide.mpr ⟨Eq.symm,Eq.symm⟩
  ·rw[if_neg h,if_neg (Ne.symm h)]
 ·rename_i x y;simp only[fx,Str.beq_comm]
theorem qK {d:TypeDesc}{k a:AV}{ck ca:Value}{b:Bool}(hd:plainKey d k=true)(h:fx k a=some b)(hk:VR ι k ck)(ha:VR ι a ca):Instr.sameNow d ck ca=some b:=by
 unfold fx at h
 split at h
 ·split at h
  ·rename_i hj
   have e1:=hk.int;have e2:=ha.int;subst e1;subst e2;subst hj
   cases d<;>simp[plainKey] at hd
   cases h
   simp only[Instr.sameNow,if_true];congr 1
  ·cases h
 ·obtain⟨ba,rfl,rfl⟩:=hk.str;obtain⟨bc,rfl,rfl⟩:=ha.str
  cases d<;>simp[plainKey] at hd
  cases h
  simp only[Instr.sameNow,Str.Cr]
  congr 1
  rw[beq_toListBytes,toList_data,toList_data]
  rw[Bool.eq_iff_iff];simp
 ·have e1:=hk.bool;have e2:=ha.bool;subst e1;subst e2
  cases d<;>simp[plainKey] at hd
  cases h
  simp only[Instr.sameNow]
 ·cases h
theorem E8 {d:TypeDesc}{x y:Value}(h:Instr.sameNow d x y=some true)(n:Nat):Instr.sameBits n y x=true:=by
 unfold Instr.sameNow at h
 split at h
 ·split at h
  ·rename_i hk;simp at h;subst hk;subst h;cases n<;>simp[Instr.sameBits]
  ·cases h
 ·simp only[Option.some.injEq] at h
  rename_i a b
  have hb:(b==a)=true:=by
   rw[beq_toListBytes] at h ⊢
   rw[beq_iff_eq] at h ⊢;exact h.symm
  cases n<;>simpa[Instr.sameBits] using hb
 ·simp only[Option.some.injEq,beq_iff_eq] at h
  subst h;cases n<;>simp[Instr.sameBits]
 ·cases h
theorem ERs.length {es:List (AV×AV)}{l:List MapEntry}(h:ERs ι es l):es.length=l.length:=by
 induction h with
 |nil=>rfl
 |cons _ _ ih=>simp[ih]
theorem ERs.get {es:List (AV×AV)}{l:List MapEntry}(h:ERs ι es l):∀ (i:Nat) (e:MapEntry),l[i]? =some e→∃p,es[i]? =some p∧ER ι p e:=by
 induction h with
 |nil=>intro i e he;simp at he
 |cons h1 _ ih=>
  intro i e he
  cases i with
  |zero=>simp at he;subst he;exact⟨_,rfl,h1⟩
  |succ i=>simp at he;simpa using ih i e he
theorem ERs.get' {es:List (AV×AV)}{l:List MapEntry}(h:ERs ι es l):∀ (i:Nat) (p:AV×AV),es[i]? =some p→∃e,l[i]? =some e∧ER ι p e:=by
 induction h with
 |nil=>intro i e he;simp at he
 |cons h1 _ ih=>
  intro i e he
  cases i with
  |zero=>simp at he;subst he;exact⟨_,rfl,h1⟩
  |succ i=>simp at he;simpa using ih i e he
theorem ERs.set {es:List (AV×AV)}{l:List MapEntry}(h:ERs ι es l):∀ (i:Nat) {p:AV×AV} {e:MapEntry},ER ι p e→ERs ι (es.set i p) (l.set i e):=by
 induction h with
 |nil=>intro i p e _;simp;exact .nil
 |cons h1 h2 ih=>
  intro i p e he
  cases i with
  |zero=>exact .cons he h2
  |succ i=>exact .cons h1 (ih i he)
theorem ERs.erase {es:List (AV×AV)}{l:List MapEntry}(h:ERs ι es l):∀ (i:Nat),ERs ι (es.eraseIdx i) (l.eraseIdx i):=by
 induction h with
 |nil=>intro i;simp;exact .nil
 |cons h1 h2 ih=>
  intro i
  cases i with
  |zero=>exact h2
  |succ i=>exact .cons h1 (ih i)
theorem ERs.snoc {es:List (AV×AV)}{l:List MapEntry}(h:ERs ι es l){p:AV×AV}{e:MapEntry}(he:ER ι p e):ERs ι (es++[p]) (l++[e]):=by
 induction h with
 |nil=>exact .cons he .nil
 |cons h1 _ ih=>exact .cons h1 ih
def At (k:AV)(es:List (AV×AV))(i:Nat):Prop:=∀j p,es[j]? =some p→fx k p.1=some (decide (j=i))
theorem At.G7 {k:AV}{es:List (AV×AV)}{i:Nat}{p:AV×AV}(hd:KD es)(hp:es[i]? =some p)(ht:fx k p.1=some true):At k es i:=by
 intro j q hq
 have e:=wM ht
 by_cases hij:j=i
 ·subst hij;rw[hp] at hq;cases hq;simpa using ht
 ·rw[decide_eq_false hij,←e]
  have hlj:j<es.length:=by
   rcases Nat.lt_or_ge j es.length with h|h
   ·exact h
   ·rw[List.getElem?_eq_none h] at hq;cases hq
  have hli:i<es.length:=by
   rcases Nat.lt_or_ge i es.length with h|h
   ·exact h
   ·rw[List.getElem?_eq_none h] at hp;cases hp
  have hqe:es[j]=q:=by rw[List.getElem?_eq_getElem hlj] at hq;exact Option.some.inj hq
  have hpe:es[i]=p:=by rw[List.getElem?_eq_getElem hli] at hp;exact Option.some.inj hp
  have hpw:=List.pairwise_iff_getElem.mp hd
  rcases Nat.lt_or_gt_of_ne hij with h|h
  ·have:=hpw j i hlj hli h
   rw[hqe,hpe] at this
   rw[vT];exact this
  ·have:=hpw i j hli hlj h
   rw[hqe,hpe] at this
   exact this
theorem vD {k v:AV}:∀ {es:List (AV×AV)},nA k es=some (some v)→∃ (i:Nat) (a:AV),es[i]? =some (a,v)∧fx k a=some true
 |[],h=>by simp[nA] at h
 |(a,x)::es,h=>by
  simp only[nA] at h
  split at h
  ·rename_i ht;cases h;exact⟨0,a,rfl,ht⟩
  ·obtain⟨i,b,h1,h2⟩:=vD h;exact⟨i+1,b,by simpa using h1,h2⟩
  ·cases h
theorem wb {k:AV}:∀ {es:List (AV×AV)},nA k es=some none→∀p∈es,fx k p.1=some false
 |[],_,_,hp=>by simp at hp
 |(a,x)::es,h,p,hp=>by
  simp only[nA] at h
  split at h
  ·cases h
  ·rename_i hf
   rcases List.mem_cons.1 hp with rfl|hp
   ·exact hf
   ·exact wb h p hp
  ·cases h
theorem lE {k x:AV}:∀ {es es':List (AV×AV)},nz k x es=some es'→
  (∃ (i:Nat) (a v:AV),es[i]? =some (a,v)∧fx k a=some true∧es'=es.set i (a,x))∨((∀p∈es,fx k p.1=some false)∧es'=es++[(k,x)])
 |[],es',h=>by simp[nz] at h;subst h;exact .inr ⟨by simp,rfl⟩
 |(a,v)::es,es',h=>by
  simp only[nz] at h
  split at h
  ·rename_i ht;cases h;exact .inl ⟨0,a,v,rfl,ht,rfl⟩
  ·rename_i hf
   split at h
   ·rename_i l hl;cases h
    rcases lE hl with⟨i,b,u,h1,h2,rfl⟩|⟨h1,rfl⟩
    ·exact .inl ⟨i+1,b,u,by simpa using h1,h2,rfl⟩
    ·refine .inr ⟨fun p hp=>?_,rfl⟩
     rcases List.mem_cons.1 hp with rfl|hp
     ·exact hf
     ·exact h1 p hp
   ·cases h
  ·cases h
theorem yH {k:AV}:∀ {es es':List (AV×AV)},IP k es=some es'→
  (∃ (i:Nat) (a v:AV),es[i]? =some (a,v)∧fx k a=some true∧es'=es.eraseIdx i)∨((∀p∈es,fx k p.1=some false)∧es'=es)
 |[],es',h=>by simp[IP] at h;subst h;exact .inr ⟨by simp,rfl⟩
 |(a,v)::es,es',h=>by
  simp only[IP] at h
  split at h
  ·rename_i ht;cases h;exact .inl ⟨0,a,v,rfl,ht,rfl⟩
  ·rename_i hf
   split at h
   ·rename_i l hl;cases h
    rcases yH hl with⟨i,b,u,h1,h2,rfl⟩|⟨h1,rfl⟩
    ·exact .inl ⟨i+1,b,u,by simpa using h1,h2,rfl⟩
    ·refine .inr ⟨fun p hp=>?_,rfl⟩
     rcases List.mem_cons.1 hp with rfl|hp
     ·exact hf
     ·exact h1 p hp
   ·cases h
  ·cases h
theorem sW {d:TypeDesc}{ck:Value}:∀ (l:List MapEntry) (i:Nat),(∀e∈l,Instr.sameNow d ck e.key=some false)→Instr.findNow d ck l i=some none
 |[],_,_=>rfl
 |e::l,i,h=>by
  simp only[Instr.findNow,h e (List.mem_cons_self ..)]
  exact sW l (i+1) fun x hx=>h x (List.mem_cons_of_mem _ hx)
theorem sV {d:TypeDesc}{ck:Value}{e0:MapEntry}:∀ (l:List MapEntry) (i:Nat),e0∈l→(∀e∈l,Instr.sameNow d ck e.key=some true∧e=e0∨Instr.sameNow d ck e.key=some false)→Instr.sameNow d ck e0.key=some true→
  ∃j,Instr.findNow d ck l i=some (some (i+j,e0.val))∧l[j]? =some e0
 |[],_,h,_,_=>by simp at h
 |e::l,i,h,hall,h0=>by
  rcases hall e (List.mem_cons_self ..) with⟨ht,rfl⟩|hf
  ·exact⟨0,by simp[Instr.findNow,ht],rfl⟩
  ·have hne:e0∈l:=by
    rcases List.mem_cons.1 h with rfl|h
    ·rw[h0] at hf;cases hf
    ·exact h
   obtain⟨j,h1,h2⟩:=sV l (i+1) hne (fun x hx=>hall x (List.mem_cons_of_mem _ hx)) h0
   refine⟨j+1,?_,by simpa using h2⟩
   simp only[Instr.findNow,hf,h1]
   congr 3;omega
include hX in
theorem eH {t:TypeId}{d:TypeDesc}{k:AV}(hu:X.und t=some d)(hd:plainKey d k=true)(b:Bool)(cv:Value):(Instr.checkKey b 10000 t cv).run P w= .ok () w:=by
 show(Instr.checkKey b (9999+1) t cv).run P w=_
 have:∀n,(Instr.checkKey b (n+1) t cv).run P w= .ok () w:=fun n=>by
  simp only[Instr.checkKey,Sem.run_bind,aL hX hu,Result.andThen_ok]
  cases d<;>first|(simp[plainKey] at hd;done)|(cases cv<;>rfl)
 exact this 9999
theorem tJ {es:List (AV×AV)}{l l':List MapEntry}{d:TypeDesc}{k:AV}{ck:Value}{i:Nat}{p:AV×AV}(hp:l'.Perm l)(hr:ERs ι es l')(hd:plainKey d k=true)(hk:VR ι k ck)
  (hat:At k es i)(hi:es[i]? =some p):∃ (e0:MapEntry) (j:Nat),l'[i]? =some e0∧ER ι p e0∧Instr.findNow d ck l 0=some (some (j,e0.val))∧l[j]? =some e0∧Instr.sameNow d ck e0.key=some true:=by
 obtain⟨e0,h1,h2⟩:=hr.get' i p hi
 have h0:Instr.sameNow d ck e0.key=some true:=qK hd (by have:=hat i p hi;simpa using this) hk h2.1
 have hmem:e0∈l:=hp.mem_iff.mp (List.mem_of_getElem? h1)
 obtain⟨j,h3,h4⟩:=sV (d:=d) (ck:=ck) l 0 hmem (fun e he=>by
  have he':=hp.mem_iff.mpr he
  obtain⟨n,hn⟩:=List.getElem?_of_mem he'
  obtain⟨q,hq,hqe⟩:=hr.get n e hn
  have:=qK hd (hat n q hq) hk hqe.1
  by_cases hni:n=i
  ·subst hni
   rw[h1] at hn;cases hn
   exact .inl ⟨h0,rfl⟩
  ·rw[decide_eq_false hni] at this;exact .inr this) h0
 exact⟨e0,j,h1,h2,by simpa using h3,h4,h0⟩
theorem tj {es:List (AV×AV)}{l l':List MapEntry}{d:TypeDesc}{k:AV}{ck:Value}(hp:l'.Perm l)(hr:ERs ι es l')(hd:plainKey d k=true)(hk:VR ι k ck)
  (hno:∀p∈es,fx k p.1=some false):Instr.findNow d ck l 0=some none:=by
 refine sW l 0 fun e he=>?_
 have he':=hp.mem_iff.mpr he
 obtain⟨n,hn⟩:=List.getElem?_of_mem he'
 obtain⟨q,hq,hqe⟩:=hr.get n e hn
 exact qK hd (hno q (List.mem_of_getElem? hq)) hk hqe.1
include hX in
theorem iP {t:TypeId}{d:TypeDesc}{ck:Value}{l:List MapEntry}{r:Option (Nat×Value)}(hu:X.und t=some d)(h:Instr.findNow d ck l 0=some r):(Instr.findKey t ck l).run P w= .ok r w:=by
 simp[Instr.findKey,aL hX hu,h]
theorem xZ {x:AV}{cx:Value}{es:List (AV×AV)}(h:mapOf x s=some es)(hH:HR P ι s w)(hx:VR ι x cx):
  (cx= .map none∧es=[])∨∃r cb,x= .map (some r)∧cx= .map (some cb)∧ι r=some (cb,0,up 0)∧s.h.get r=some (.map es)∧KD es∧∃l clock,w.heap[cb]? =some (.map l clock)∧(∃l',l'.Perm l.toList∧ERs ι es l')∧(l.toList.map (·.born)).Nodup∧∀e∈l.toList,e.born<clock:=by
 unfold mapOf at h
 split at h
 ·simp only[VR] at hx;cases h;exact .inl ⟨hx,rfl⟩
 ·rename_i r
  split at h
  ·rename_i es' hg
   cases h
   simp only[VR] at hx
   obtain⟨cb,d,hb,rfl⟩:=hx
   obtain⟨h0,hkd,l,clock,h1,h2⟩:=hH.br r cb d _ hb hg
   subst h0
   exact .inr ⟨r,cb,rfl,rfl,hb,hg,hkd,l,clock,h1,h2⟩
  ·cases h
 ·cases h
include hX in
theorem wc {t:TypeId}{x k:AV}{ok:Bool}{cx ck:Value}{r:OR}(h:eN X t x k ok s=some r)(hH:HR P ι s w)(hx:VR ι x cx)(hk:VR ι k ck):
  iX P ι s w r ((do pure (.value (←Instr.lookup t cx ck ok)):Sem Next).run P w):=by
 unfold eN at h
 split at h
 ·rename_i kt vt hu
  split at h
  ·rename_i d es hd hm
   split at h
   ·rename_i hpl
    have main:∀ (l:Array MapEntry),KD es→(∃l',l'.Perm l.toList∧ERs ι es l')→
      ∃ (fk:Option (Nat×Value)) (v:AV) (b:Bool) (cv:Value),(Instr.findKey kt ck l.toList).run P w= .ok fk w∧oR ok v b=some r∧VR ι v cv∧((∃j,fk=some (j,cv)∧b=true)∨(fk=none∧b=false∧(zeroValue vt).run P w= .ok cv w)):=fun l hkd ⟨l',hp,hr⟩=>by
     unfold w6 at h
     split at h
     ·rename_i v hf
      obtain⟨i,a,hi,ht⟩:=vD hf
      obtain⟨e0,j,_,her,hfn,_,_⟩:=tJ hp hr hpl hk (At.G7 hkd hi ht) hi
      exact⟨_,v,true,e0.val,iP hX hd hfn,h,her.2, .inl ⟨j,rfl,rfl⟩⟩
     ·rename_i hf
      split at h
      ·rename_i z hz
       obtain⟨cz,h1,rfl⟩:=fA hX hz w
       exact⟨_,_,false,cz,iP hX hd (tj hp hr hpl hk (wb hf)),h,jJ ι cz, .inr ⟨rfl,rfl,h1⟩⟩
      ·cases h
     ·cases h
    rcases xZ hm hH hx with⟨rfl,rfl⟩|⟨r',cb,rfl,rfl,_,_,hkd,l,clock,h1,h2,_⟩
    ·obtain⟨fk,v,b,cv,h3,h4,h5,⟨j,rfl,rfl⟩|⟨rfl,rfl,h6⟩⟩:=main #[] .nil ⟨[], .nil, .nil⟩
     ·refine jV h4 h5 ?_
      simp only[Instr.lookup,Sem.run_bind,aL hX hu,Result.andThen_ok,Sem.run_pure,eH hX hd hpl,h3]
     ·refine jV h4 h5 ?_
      simp only[Instr.lookup,Sem.run_bind,aL hX hu,Result.andThen_ok,Sem.run_pure,eH hX hd hpl,h3,h6]
    ·have hg:(getObj cb).run P w= .ok (.map l clock) w:=by simp[getObj,Sem.run,h1]
     obtain⟨fk,v,b,cv,h3,h4,h5,⟨j,rfl,rfl⟩|⟨rfl,rfl,h6⟩⟩:=main l hkd h2
     ·refine jV h4 h5 ?_
      simp only[Instr.lookup,Sem.run_bind,aL hX hu,Result.andThen_ok,Sem.run_pure,hg,eH hX hd hpl,h3]
     ·refine jV h4 h5 ?_
      simp only[Instr.lookup,Sem.run_bind,aL hX hu,Result.andThen_ok,Sem.run_pure,hg,eH hX hd hpl,h3,h6]
   ·cases h
  ·cases h
 ·cases h
theorem Bz {α:Type}{l:List α}:∀ {j:Nat} {e x:α},l[j]? =some e→∃r,l.Perm (e::r)∧(l.set j x).Perm (x::r)∧(l.eraseIdx j).Perm r:=by
 induction l with
 |nil=>intro j e x h;simp at h
 |cons a l ih=>
  intro j e x h
  cases j with
  |zero=>simp at h;subst h;exact⟨l, .refl _, .refl _, .refl _⟩
  |succ j=>
   simp at h
   obtain⟨r,h1,h2,h3⟩:=ih (x:=x) h
   refine⟨a::r,?_,?_,?_⟩
   ·exact(h1.cons a).trans (.swap _ _ _)
   ·exact(h2.cons a).trans (.swap _ _ _)
   ·simpa using h3.cons a
theorem xU {α:Type}{l l':List α}(hp:l'.Perm l){i j:Nat}{e x:α}(hi:l'[i]? =some e)(hj:l[j]? =some e):(l'.set i x).Perm (l.set j x)∧(l'.eraseIdx i).Perm (l.eraseIdx j):=by
 obtain⟨r,a1,a2,a3⟩:=Bz (x:=x) hi
 obtain⟨q,b1,b2,b3⟩:=Bz (x:=x) hj
 have:r.Perm q:=(List.perm_cons e).mp ((a1.symm.trans hp).trans b1)
 exact⟨(a2.trans (this.cons x)).trans b2.symm,(a3.trans this).trans b3.symm⟩
theorem KD.set {es:List (AV×AV)}{i:Nat}{a v x:AV}(h:KD es)(hi:es[i]? =some (a,v)):KD (es.set i (a,x)):=by
 unfold KD at*
 rw[List.pairwise_iff_getElem] at*
 intro m n hm hn hmn
 have key:∀q (hq:q<(es.set i (a,x)).length),((es.set i (a,x))[q]).1=(es[q]'(by simpa using hq)).1:=fun q hq=>by
  rw[List.getElem_set]
  split
  ·rename_i e;subst e
   have:es[i]'(by simpa using hq)=(a,v):=by
    rw[List.getElem?_eq_getElem (by simpa using hq)] at hi;exact Option.some.inj hi
   rw[this]
  ·rfl
 rw[key m hm,key n hn]
 exact h m n _ _ hmn
theorem KD.erase {es:List (AV×AV)}(h:KD es)(i:Nat):KD (es.eraseIdx i):=List.Pairwise.sublist (List.eraseIdx_sublist _ _) h
theorem KD.snoc {es:List (AV×AV)}{k x:AV}(h:KD es)(hno:∀p∈es,fx k p.1=some false):KD (es++[(k,x)]):=by
 unfold KD at*
 rw[List.pairwise_append]
 refine⟨h,by simp,fun p hp q hq=>?_⟩
 simp at hq;subst hq
 rw[vT];exact hno p hp
include hX in
theorem ph {t:TypeId}{m k v:AV}{cm ck cv:Value}{r:OR}(h:fy X t m k v s=some r)(hH:HR P ι s w)(hm:VR ι m cm)(hk:VR ι k ck)(hv:VR ι v cv):
  iX P ι s w r ((do Instr.mapUpdate t cm ck cv;pure .skip:Sem Next).run P w):=by
 unfold fy at h
 split at h
 ·cases h
 ·split at h
  ·rename_i kt vt mr hu
   split at h
   ·rename_i d es hd hg
    split at h
    ·rename_i es' hpl hput
     cases h
     simp only[VR] at hm
     obtain⟨cb,dd,hb,rfl⟩:=hm
     obtain⟨h0,hkd,l,clock,h1,⟨l',hp,hr⟩,hnd,hbc⟩:=hH.br mr cb dd _ hb hg
     subst h0
     have hg':(getObj cb).run P w= .ok (.map l clock) w:=by simp[getObj,Sem.run,h1]
     have hset:∀o,(setObj cb o).run P w= .ok () {w with heap:=w.heap.setIfInBounds cb o}:=fun o=>by simp[setObj,Sem.run,h1]
     have hcb:cb<w.heap.size:=(hH.br mr cb (0,up 0) _ hb hg).lt
     have fin:∀ (l2:Array MapEntry) (k2:Nat),(Instr.mapUpdate t (.map (some cb)) ck cv).run P w= .ok () {w with heap:=w.heap.setIfInBounds cb (.map l2 k2)}→KD es'→(∃l',l'.Perm l2.toList∧ERs ι es' l')→(l2.toList.map (·.born)).Nodup→(∀e∈l2.toList,e.born<k2)→
       iX P ι s w (.val (.tup []) (s.xI mr es')) ((do Instr.mapUpdate t (.map (some cb)) ck cv;pure .skip:Sem Next).run P w):=fun l2 k2 hrun hkd' hp' hnd' hbc'=>by
      have hs:s.xI mr es'={s with h:=s.h.put mr (.map es')}:=by simp[St.xI]
      rw[hs]
      obtain⟨g1,g2⟩:=hH.put (w':={w with heap:=w.heap.setIfInBounds cb (.map l2 k2)}) hb hg ⟨rfl,rfl⟩ (by simp) (fun c hc=>by simp[Array.getElem?_setIfInBounds_ne (Ne.symm hc)])
       (ab':= .map es') ⟨rfl,hkd',l2,k2,by simp[hcb],hp',hnd',hbc'⟩ (.other h1 fun _ _ _=>by simp)
      exact⟨_,_,undef, .inr ⟨Bi hrun,rfl⟩,by simp only[VR,undef];exact⟨_,rfl,by simp[VRs]⟩,g1,g2⟩
     rcases lE hput with⟨i,a,u,hi,ht,rfl⟩|⟨hno,rfl⟩
     ·obtain⟨e0,j,h2,her,hfn,hj,hsame⟩:=tJ hp hr hpl hk (At.G7 hkd hi ht) hi
      have hjl:l[j]? =some e0:=by simpa using hj
      have hkts:(Instr.keyThatStays e0.key ck).run P w= .ok ck w:=by
       simp only[Instr.keyThatStays,E8 hsame,if_true,Sem.run_pure]
      refine fin (l.modify j fun e=>{e with key:=ck,val:=cv}) clock ?_ (hkd.set hi) ?_ ?_ ?_
      ·simp only[Instr.mapUpdate,Sem.run_bind,aL hX hu,Result.andThen_ok,hg',eH hX hd hpl,iP hX hd hfn,hjl,Option.map_some,Option.getD_some,hkts,hset]
      ·have hl2:(l.modify j fun e=>{e with key:=ck,val:=cv}).toList=l.toList.set j {e0 with key:=ck,val:=cv}:=by
        rw[Array.toList_modify]
        apply List.ext_getElem?
        intro n
        rw[List.getElem?_modify,List.getElem?_set]
        by_cases hn:j=n
        ·subst hn
         have hlt:j<l.toList.length:=by
          rcases Nat.lt_or_ge j l.toList.length with h'|h'
          ·exact h'
          ·rw[List.getElem?_eq_none h'] at hj;cases hj
         have hlt':j<l.size:=by simpa using hlt
         have hje:l[j]=e0:=by
          rw[Array.getElem?_eq_getElem hlt'] at hjl;exact Option.some.inj hjl
         simp[hlt',hje]
        ·simp[hn]
       rw[hl2]
       refine⟨l'.set i {e0 with key:=ck,val:=cv},(xU hp h2 hj).1,hr.set i ⟨?_,hv⟩⟩
       have:=wM ht;subst this;exact hk
      ·have:(l.modify j fun e=>{e with key:=ck,val:=cv}).toList.map (·.born)=l.toList.map (·.born):=by
        rw[Array.toList_modify]
        apply List.ext_getElem?
        intro n
        simp only[List.getElem?_map,List.getElem?_modify]
        by_cases hn:j=n
        ·subst hn;simp[hj]
        ·simp[hn]
       rw[this];exact hnd
      ·intro e he
       obtain⟨n,hn⟩:=List.getElem?_of_mem he
       rw[Array.toList_modify,List.getElem?_modify] at hn
       by_cases hjn:j=n
       ·subst hjn
        simp[hjl] at hn;subst hn
        exact hbc e0 (List.mem_of_getElem? hj)
       ·simp[hjn] at hn
        exact hbc e (List.mem_of_getElem? (l:=l.toList) (i:=n) (by simpa using hn))
     ·have hfn:=tj hp hr hpl hk hno
      refine fin (l.push {key:=ck,val:=cv,born:=clock}) (clock+1) ?_ (hkd.snoc hno) ?_ ?_ ?_
      ·simp only[Instr.mapUpdate,Sem.run_bind,aL hX hu,Result.andThen_ok,hg',eH hX hd hpl,iP hX hd hfn,hset]
      ·refine⟨l'++[{key:=ck,val:=cv,born:=clock}],?_,hr.snoc ⟨hk,hv⟩⟩
       rw[Array.toList_push]
       exact hp.append_right _
      ·rw[Array.toList_push,List.map_append,List.nodup_append]
       refine⟨hnd,by simp,fun x hx y hy=>?_⟩
       simp at hy;subst hy
       obtain⟨e,he,rfl⟩:=List.mem_map.mp hx
       have:=hbc e he;omega
      ·intro e he
       rw[Array.toList_push] at he
       rcases List.mem_append.mp he with he|he
       ·have:=hbc e he;omega
       ·simp at he;subst he;simp
    ·cases h
   ·cases h
  ·cases h
include hX in
theorem BH {t ty:TypeId}{ts:Array TypeId}{m k:AV}{cm ck:Value}{r:OR}(h:I8 X t m k s=some r)(hts:ts[0]? =some t)(hH:HR P ι s w)(hm:VR ι m cm)(hk:VR ι k ck):
  iX P ι s w r ((do pure (.value (←Builtin.delete_ ts ty #[cm,ck])):Sem Next).run P w):=by
 unfold I8 at h
 split at h
 ·rename_i mr kt vt hu
  split at h
  ·rename_i d es hd hg
   split at h
   ·rename_i es' hpl hdel
    cases h
    simp only[VR] at hm
    obtain⟨cb,dd,hb,rfl⟩:=hm
    obtain⟨h0,hkd,l,clock,h1,⟨l',hp,hr⟩,hnd,hbc⟩:=hH.br mr cb dd _ hb hg
    subst h0
    have hg':(getObj cb).run P w= .ok (.map l clock) w:=by simp[getObj,Sem.run,h1]
    have hset:∀o,(setObj cb o).run P w= .ok () {w with heap:=w.heap.setIfInBounds cb o}:=fun o=>by simp[setObj,Sem.run,h1]
    have hcb:cb<w.heap.size:=(hH.br mr cb (0,up 0) _ hb hg).lt
    have fin:∀ (l2:Array MapEntry),(Builtin.delete_ ts ty #[.map (some cb),ck]).run P w= .ok (.tuple #[]) {w with heap:=w.heap.setIfInBounds cb (.map l2 clock)}→KD es'→(∃l',l'.Perm l2.toList∧ERs ι es' l')→(l2.toList.map (·.born)).Nodup→(∀e∈l2.toList,e.born<clock)→
      iX P ι s w (.val (.tup []) (s.xI mr es')) ((do pure (.value (←Builtin.delete_ ts ty #[.map (some cb),ck])):Sem Next).run P w):=fun l2 hrun hkd' hp' hnd' hbc'=>by
     have hs:s.xI mr es'={s with h:=s.h.put mr (.map es')}:=by simp[St.xI]
     rw[hs]
     obtain⟨g1,g2⟩:=hH.put (w':={w with heap:=w.heap.setIfInBounds cb (.map l2 clock)}) hb hg ⟨rfl,rfl⟩ (by simp) (fun c hc=>by simp[Array.getElem?_setIfInBounds_ne (Ne.symm hc)])
      (ab':= .map es') ⟨rfl,hkd',l2,clock,by simp[hcb],hp',hnd',hbc'⟩ (.other h1 fun _ _ _=>by simp)
     exact⟨_,_, .tuple #[], .inl (bt hrun),by simp only[VR];exact⟨_,rfl,by simp[VRs]⟩,g1,g2⟩
    rcases yH hdel with⟨i,a,u,hi,ht,rfl⟩|⟨hno,rfl⟩
    ·obtain⟨e0,j,h2,her,hfn,hj,hsame⟩:=tJ hp hr hpl hk (At.G7 hkd hi ht) hi
     have hsub:(l.toList.eraseIdx j).Sublist l.toList:=List.eraseIdx_sublist _ _
     refine fin (l.eraseIdxIfInBounds j) ?_ (hkd.erase i) ?_ ?_ ?_
     ·simp only[Builtin.delete_,hts,List.getElem?_toArray,List.getElem?_cons_zero,List.getElem?_cons_succ,Sem.run_bind,aL hX hu,Result.andThen_ok,hg',eH hX hd hpl,iP hX hd hfn,hset,Sem.run_pure]
     ·rw[Array.toList_eraseIdxIfInBounds]
      exact⟨_,(xU (x:=e0) hp h2 hj).2,hr.erase i⟩
     ·rw[Array.toList_eraseIdxIfInBounds]
      exact hnd.sublist (hsub.map _)
     ·intro e he
      rw[Array.toList_eraseIdxIfInBounds] at he
      exact hbc e (hsub.mem he)
    ·have hfn:=tj hp hr hpl hk hno
     refine fin l ?_ hkd ⟨l',hp,hr⟩ hnd hbc
     simp only[Builtin.delete_,hts,List.getElem?_toArray,List.getElem?_cons_zero,List.getElem?_cons_succ,Sem.run_bind,aL hX hu,Result.andThen_ok,hg',eH hX hd hpl,iP hX hd hfn,hset,Sem.run_pure]
   ·cases h
  ·cases h
 ·cases h
end
end Go.Am
end
