/-
  A part of the texts.
-/
import Derived.Laws.IdiomStrings
import Derived.Test.YtofohkdkpbigiaaQae
section
namespace Go.Am
section
variable {P:Program}{X:Ctx}(hX:dU P X){ι:Inj}{s:St}{w:World}
theorem rL (bs:ByteArray):∀n,n≤bs.data.toList.length→fX (Str.of bs) n=(bs.data.toList.drop (bs.data.toList.length- n)).map fun b=>AV.int .u8 (b.toNat:Int)
 |0,_=>by simp[fX]
 |n+1,h=>by
  simp only[fX]
  have hlt:bs.data.toList.length- (n+1)<bs.data.toList.length:=by omega
  have hl:(Str.of bs).len=bs.data.toList.length:=rfl
  rw[rL bs n (by omega),hl,GM hlt,List.drop_eq_getElem_cons hlt]
  have e:bs.data.toList.length- (n+1)+1=bs.data.toList.length- n:=by omega
  rw[e];simp
theorem mV (bs:ByteArray):fX (Str.of bs) (Str.of bs).len=bs.data.toList.map fun b=>AV.int .u8 (b.toNat:Int):=by
 have:=rL bs (Str.of bs).len (Nat.le_refl _)
 simpa[Str.of] using this
theorem F9 (l:List UInt8):VRs ι (l.map fun b=>AV.int .u8 (b.toNat:Int)) (l.map fun b=>Value.int .u8 (b.toNat:Int)):=by
 induction l with
 |nil=>simp[VRs]
 |cons b l ih=>simp only[List.map_cons,VRs];exact⟨by simp[VR],ih⟩
theorem sS {size n:Nat}{y:AV}{cy:Value}{new:List AV}(h:aZ s size y=some (n,new))(hH:HR P ι s w)(hy:VR ι y cy):
  ∃news:List Value,(Builtin.firstCells size n cy).run P w= .ok news.toArray w∧VRs ι new news∧(Builtin.lenOf cy).run P w= .ok n w∧new.length=n*size:=by
 unfold aZ at h
 split at h
 ·rename_i m c x
  simp only[VR] at hy;obtain⟨rfl,rfl,rfl,rfl⟩:=hy
  simp at h;obtain⟨rfl,rfl⟩:=h
  exact⟨[],by simp[Builtin.firstCells],by simp[VRs],by simp[Builtin.lenOf],by simp⟩
 ·rename_i b off es m c x
  simp only[VR] at hy
  obtain⟨cb,d,o,cm,hb,rfl,ho,hn,hc,hx,hr⟩:=hy
  split at h
  ·rename_i h0
   have h0:=Nat.beq_eq.mp h0
   subst h0
   cases h
   exact⟨[],by simp[Builtin.firstCells,loadCells,loadCellsFrom],by simp[VRs],by simp[Builtin.lenOf],by simp⟩
  ·rename_i h0
   have h0:m≠0:=fun e=>by rw[e] at h0;simp at h0
   split at h
   ·rename_i c' k hcells
    split at h
    ·rename_i l hl
     cases h
     have ho:=ho (.inl (by omega))
     subst ho
     obtain⟨vs,h1,h2⟩:=zr (P:=P) hH ⟨b,hb,hcells⟩ hl
     exact⟨vs,by simpa[Builtin.firstCells] using h1,h2,by simp[Builtin.lenOf],(mo hl).1⟩
    ·cases h
   ·cases h
 ·obtain⟨bs,rfl,rfl⟩:=hy.str
  split at h
  ·rename_i h1
   have h1:=Nat.beq_eq.mp h1
   subst h1
   cases h
   refine⟨bs.data.toList.map fun b=>Value.int .u8 (b.toNat:Int),?_,?_,by simp[Builtin.lenOf,Str.of],?_⟩
   ·simp only[Builtin.firstCells,Sem.run_pure]
    congr 1
    have:bs.extract 0 (Str.of bs).len=bs:=by
     have:(Str.of bs).len=bs.size:=by simp[Str.of]
     rw[this];exact ByteArray.extract_zero_size
    rw[this]
    apply Array.ext'
    simp
   ·rw[mV];exact F9 _
   ·rw[mV];simp[Str.of]
  ·cases h
 ·cases h
theorem HR.drew (h:HR P ι s w):HR P ι s w.drew:=h.heap rfl
theorem grownCap_ge (w:World)(need old:Nat)(e:TypeId):need≤grownCap w need old e:=by
 simp only[grownCap,Question.cut];omega
include hX in
theorem wg {t u ty e:TypeId}{rest:List TypeId}{size n len ccap:Nat}{base:Option Addr}{cy:Value}{olds news:List Value}(hu:X.und t=some (.slice e))(hi:∀d,X.und u=some d→∀k,d≠ .int k)(hu2:∃d,X.und u=some d)
  (he:X.elem e=some size)(hl:(Builtin.lenOf cy).run P w= .ok n w)(ho:(Builtin.firstCells size len (.slice base len ccap)).run P w.drew= .ok olds.toArray w.drew)(hn:(Builtin.firstCells size n cy).run P w.drew= .ok news.toArray w.drew)
  (hno:¬len+n≤ccap)(hsmall:len+n≤1000000):
  ∃zc:Array Value,zc.size=size∧(Builtin.append_ (t::u::rest).toArray ty #[.slice base len ccap,cy]).run P w=
   .ok (.slice (some ⟨w.heap.size,0,none⟩) (len+n) (grownCap w (len+n) ccap e)) (w.drew.alloc (.cells (olds.toArray++news.toArray++Builtin.zeroCells zc (grownCap w (len+n) ccap e- (len+n))) e)):=by
 obtain⟨i,hti,hsz,hby,hpos,z,hz,hzs⟩:=lI he
 refine⟨z.cells,hzs,?_⟩
 obtain⟨d,hd⟩:=hu2
 have hni:=hi d hd
 have hcap:=nextslicecap_le (need:=len+n) (old:=ccap) (by omega)
 have hb:¬(2^48<Builtin.nextslicecap (len+n) ccap*i.bytes):=by
  have h1:Builtin.nextslicecap (len+n) ccap*i.bytes≤(2*1000000)*1048576:=Nat.mul_le_mul (by omega) hby
  omega
 have hmax:¬(IntKind.i64.max<((len+n:Nat):Int)):=by
  simp only[IntKind.max,IntKind.signed,IntKind.bits,if_true];omega
 have hzv:(zeroValue e).run P w.drew= .ok z w.drew:=by simp[zeroValue,run_typeInfo hX hti,hz]
 simp only[Builtin.append_,List.getElem?_toArray,List.getElem?_cons_zero,List.getElem?_cons_succ,Sem.run_bind,aL hX hu,aL hX hd,Result.andThen_ok,cO hX (nF he),Sem.run_pure]
 have hq:({w with drawn:=w.drawn+1}:World)=w.drew:=rfl
 simp only[Bool.false_eq_true,if_false,hl,Result.andThen_ok,hno,false_or,Sem.run_ite,Sem.run_bind,gt_iff_lt,hmax,false_and,run_typeInfo hX hti,hb,run_choose,Question.forced,run_askRoom,hq,Sem.run_pure,Bool.not_false,if_true]
 simp only[ho,hn,hzv,Result.andThen_ok,newRow,Sem.run_bind,run_newObj,Sem.run_pure]
 rfl
include hX in
theorem run_append_room {t u ty e:TypeId}{rest:List TypeId}{size n len ccap:Nat}{base:Option Addr}{cy:Value}{news:List Value}{w':World}(hu:X.und t=some (.slice e))(hi:∀d,X.und u=some d→∀k,d≠ .int k)(hu2:∃d,X.und u=some d)
  (he:X.elem e=some size)(hl:(Builtin.lenOf cy).run P w= .ok n w)(hn:(Builtin.firstCells size n cy).run P w= .ok news.toArray w)(hno:len+n≤ccap)
  (hst:(match base with|some a=>storeCells (a.add (len*size)) news|none=>pure ():Sem Unit).run P w= .ok () w'):
  (Builtin.append_ (t::u::rest).toArray ty #[.slice base len ccap,cy]).run P w= .ok (.slice base (len+n) ccap) w':=by
 obtain⟨d,hd⟩:=hu2
 have hni:=hi d hd
 simp only[Builtin.append_,List.getElem?_toArray,List.getElem?_cons_zero,List.getElem?_cons_succ,Sem.run_bind,aL hX hu,aL hX hd,Result.andThen_ok,cO hX (nF he),Sem.run_pure]
 simp only[Bool.false_eq_true,if_false,hl,Result.andThen_ok,hno,if_true,Sem.run_ite,Sem.run_bind,Bool.not_false,hn]
 cases base with
 |none=>simp only[Sem.run_pure,Result.ok.injEq,true_and] at hst;subst hst;simp
 |some a=>simp only at hst;simp[hst]
theorem tP {off len size m:Nat}{c c':Tr AV}{new:List AV}(h:ka off len size m c new=some c')(hm:∀i v,c.get i=some v→i<m):
  (∃old,ldL c off (len*size)=some old)∧∀i v,c'.get i=some v→(i<len*size∧c.get (off+i)=some v)∨(len*size≤i∧new[i- len*size]? =some v):=by
 unfold ka at h
 split at h
 ·rename_i hc
  rw[Bool.and_eq_true] at hc
  have h1:=Nat.beq_eq.mp hc.1
  have h2:=Nat.beq_eq.mp hc.2
  subst h1
  split at h
  ·rename_i old hold
   cases h
   refine⟨⟨old,hold⟩,fun i v hi=>?_⟩
   rcases Tr.iG new _ c i v hi with⟨a,b⟩|⟨a,b⟩
   ·exact .inr ⟨a,b⟩
   ·exact .inl ⟨by rw[←h2];exact hm i v b,by simpa using b⟩
  ·cases h
 ·split at h
  ·rename_i old hold
   cases h
   obtain⟨hl,hg⟩:=mo hold
   refine⟨⟨old,hold⟩,fun i v hi=>?_⟩
   have hi:=Tr.dF hi
   by_cases hlt:i<len*size
   ·rw[List.getElem?_append_left (by omega)] at hi
    exact .inl ⟨hlt,hg i v hi⟩
   ·rw[List.getElem?_append_right (by omega),hl] at hi
    exact .inr ⟨by omega,hi⟩
  ·cases h
include hX in
theorem uC {t u ty e:TypeId}{ik:IntKind}{rest:List TypeId}{size k len ccap:Nat}{base:Option Addr}{olds:List Value}(hu:X.und t=some (.slice e))(hi:X.und u=some (.int ik))
  (he:X.elem e=some size)(ho:(Builtin.firstCells size len (.slice base len ccap)).run P w.drew= .ok olds.toArray w.drew)
  (hno:¬len+k≤ccap)(hk:k≠0)(hsmall:len+k≤1000000){zc:Value}(hz:(zeroValue e).run P w.drew= .ok zc w.drew):
  (Builtin.append_ (t::u::rest).toArray ty #[.slice base len ccap, .int .i64 (k:Int)]).run P w=
   .ok (.slice (some ⟨w.heap.size,0,none⟩) (len+k) (grownCap w (len+k) ccap e)) (w.drew.alloc (.cells (olds.toArray++Builtin.zeroCells zc.cells k++Builtin.zeroCells zc.cells (grownCap w (len+k) ccap e- (len+k))) e)):=by
 obtain⟨i,hti,hsz,hby,hpos,_⟩:=lI he
 have hcap:=nextslicecap_le (need:=len+k) (old:=ccap) (by omega)
 have hb:¬(2^48<Builtin.nextslicecap (len+k) ccap*i.bytes):=by
  have h1:Builtin.nextslicecap (len+k) ccap*i.bytes≤(2*1000000)*1048576:=Nat.mul_le_mul (by omega) hby
  omega
 have hmax:¬(IntKind.i64.max<((len+k:Nat):Int)):=by
  simp only[IntKind.max,IntKind.signed,IntKind.bits,if_true];omega
 have hwk:IntKind.i64.wrap (k:Int)=k:=by
  have:fits .i64 (.ofNat k)=true:=by simp[fits,Nat.blt_eq];omega
  exact iS this
 have hneg:¬((k:Int)<0):=by omega
 have hbz:¬((2:Int)^48<(k:Int)*(i.bytes:Int)):=by
  have h1:k*i.bytes≤1000000*1048576:=Nat.mul_le_mul (by omega) hby
  have h2:((k*i.bytes:Nat):Int)≤((1000000*1048576:Nat):Int):=by exact_mod_cast h1
  rw[Int.natCast_mul] at h2
  omega
 have hks:¬(k*size=0):=by
  intro h0
  rcases Nat.mul_eq_zero.mp h0 with h|h<;>omega
 simp only[Builtin.append_,List.getElem?_toArray,List.getElem?_cons_zero,List.getElem?_cons_succ,Sem.run_bind,aL hX hu,aL hX hi,Result.andThen_ok,cO hX (nF he),Sem.run_pure]
 have hq:({w with drawn:=w.drawn+1}:World)=w.drew:=rfl
 simp only[if_true,asInt,asIntOf,Sem.run_bind,Sem.run_pure,Result.andThen_ok,hwk,Sem.run_ite,hneg,if_false,run_typeInfo hX hti,gt_iff_lt,hbz,Int.toNat_natCast,hno,hmax,false_and,hb,run_choose,Question.forced,run_askRoom,hq,Bool.not_true,Bool.false_eq_true,hks,true_or,and_true]
 simp only[ho,hz,Result.andThen_ok,newRow,Sem.run_bind,run_newObj,Sem.run_pure]
 rfl
include hX in
theorem xm {t u ty:TypeId}{ik:IntKind}{rest:List TypeId}{x y:AV}{cx cy:Value}{r:OR}(h:rM X t x y s=some r)(hi:X.und u=some (.int ik))(hH:HR P ι s w)(hx:VR ι x cx)(hy:VR ι y cy):
  iX P ι s w r ((do pure (.value (←Builtin.append_ (t::u::rest).toArray ty #[cx,cy])):Sem Next).run P w):=by
 unfold rM at h
 split at h
 ·rename_i b len cap k
  have hyy:=hy.int
  subst hyy
  split at h
  ·rename_i e hu
   split at h
   ·rename_i size z he hz
    split at h
    ·rename_i hc
     simp only[Bool.and_eq_true] at hc
     obtain⟨c1,c2,c3,c4⟩:=hc
     have c1:=Nat.blt_eq.mp c1
     have c2:=Nat.ble_eq.mp c2
     have c4:=Nat.beq_eq.mp c4
     unfold kW at h
     split at h
     ·rename_i hnone;cases hnone
     ·rename_i b off es eb
      cases eb
      split at h
      ·rename_i c m hes hcb
       have hes:=Nat.beq_eq.mp hes
       subst hes
       unfold qC at h
       split at h
       ·rename_i c' hold
        cases h
        simp only[VR] at hx
        obtain⟨cb,d,o,m0,hb,rfl,ho,hle1,hle2,hexx,hrm⟩:=hx
        have hm0:m0=cap:=by simpa using hexx
        subst hm0
        obtain⟨cs,el,fz,k1,k0,k2⟩:=hH.cells hb hcb
        obtain⟨⟨old,hld⟩,hc'⟩:=tP hold (fun i v hv=>(k2 i v hv).1)
        have hoo:o=d.1+off:=by simpa using ho
        subst hoo
        obtain⟨cz,z1,rfl⟩:=fA hX hz w.drew
        have hzc:=(jJ ι cz).cells (fI c3)
        have hzs:cz.cells.size=es:=by have:=hzc.length;simp at this;omega
        obtain⟨vs,g1,g2⟩:=zr (P:=P) hH.drew ⟨b,hb,hcb⟩ hld
        obtain⟨q1,q2⟩:=mo hld
        have holds:vs.length=len*es:=by rw[←g2.length,q1]
        have hrun:=uC hX (ty:=ty) (rest:=rest) hu hi he (olds:=vs) (len:=len) (ccap:=m0) (base:=some ⟨cb,d.1+off,none⟩) (k:=k) (by simpa[Builtin.firstCells] using g1) (by omega) (by omega) c2 z1
        have hge:=grownCap_ge w (len+k) m0 e
        generalize grownCap w (len+k) m0 e=G at hrun hge
        have hrep:=pB hzc k
        have hzl:(Builtin.zeroCells cz.cells k).size=k*es:=by simp[Builtin.zeroCells,hzs]
        have hrow:(vs.toArray++Builtin.zeroCells cz.cells k++Builtin.zeroCells cz.cells (G- (len+k))).size=G*es:=by
         simp only[Array.size_append,List.size_toArray,holds,Builtin.zeroCells,Array.size_map,Array.size_range,hzs]
         rw[←Nat.add_mul,←Nat.add_mul];congr 1;omega
        have hw:(w.drew.alloc (.cells (vs.toArray++Builtin.zeroCells cz.cells k++Builtin.zeroCells cz.cells (G- (len+k))) e)).heap=w.heap.push (.cells (vs.toArray++Builtin.zeroCells cz.cells k++Builtin.zeroCells cz.cells (G- (len+k))) e):=rfl
        have e1:s.jU c' ((len+k)*es+cD m)=s.new (.cells c' ((len+k)*es+cD m)):=by simp[St.jU]
        simp only[e1]
        obtain⟨f1,f2⟩:=hH.new (z:=G*es) hw ⟨rfl,rfl⟩ (ab:= .cells c' ((len+k)*es+cD m)) (fun κ hκ=>by
         refine⟨_,e,(0,0),by rw[hw];exact dT,fun j hj=>⟨by rw[hrow];exact hj,by simp⟩,fun i v hiv=>?_,fun _=>by simp⟩
         have hmul:(len+k)*es=len*es+k*es:=Nat.add_mul _ _ _
         have hGm:(len+k)*es≤G*es:=Nat.mul_le_mul_right _ hge
         rcases hc' i v hiv with⟨a1,a2⟩|⟨a1,a2⟩
         ·have hi':i<old.length:=by omega
          have h3:=q2 i old[i] (by simp[hi'])
          rw[h3] at a2
          obtain⟨cv,a3,a4⟩:=g2.get (show old[i]? =some v by rw[List.getElem?_eq_getElem hi'];exact a2)
          refine⟨by omega,by simp only;omega,cv,?_,a4.mono hκ⟩
          simp only[Nat.zero_add]
          rw[Array.getElem?_append_left (by simp;omega),Array.getElem?_append_left (by simp;omega)]
          simpa using a3
         ·obtain⟨cv,a3,a4⟩:=hrep.get a2
          have hlt:i- len*es<k*es:=by
           rcases Nat.lt_or_ge (i- len*es) (k*es) with h'|h'
           ·exact h'
           ·rw[List.getElem?_eq_none (by simp[hzs];omega)] at a3;cases a3
          refine⟨by omega,by simp only;omega,cv,?_,a4.mono hκ⟩
          simp only[Nat.zero_add]
          rw[Array.getElem?_append_left (by simp only[Array.size_append,List.size_toArray,holds,hzl];omega),Array.getElem?_append_right (by simp;omega)]
          simp only[List.size_toArray,holds]
          rw[Array.getElem?_toList] at a3
          exact a3)
        refine⟨_,_,_, .inl (bt hrun),?_,f1,f2⟩
        simp only[VR,St.new]
        exact⟨_,_,_,_,Inj.db _ _ _,rfl,fun _=>rfl,Nat.le_refl _,hge,(fun e=>by cases e),by simp⟩
       ·cases h
      ·cases h
    ·cases h
   ·cases h
  ·cases h
 ·cases h
theorem En {m k:Nat}(h:k+cD m<iM):m<iM:=by
 unfold cD at h
 split at h
 ·rename_i h1;exact Nat.blt_eq.mp h1
 ·omega
include hX in
theorem o0 {t u ty:TypeId}{rest:List TypeId}{x y:AV}{cx cy:Value}{r:OR}(h:cN X t x y s=some r)(hi:∀d,X.und u=some d→∀k,d≠ .int k)(hu2:∃d,X.und u=some d)(hH:HR P ι s w)(hx:VR ι x cx)(hy:VR ι y cy):
  iX P ι s w r ((do pure (.value (←Builtin.append_ (t::u::rest).toArray ty #[cx,cy])):Sem Next).run P w):=by
 unfold cN at h
 split at h
 ·rename_i e hu
  split at h
  ·rename_i size base len cap exact he
   split at h
   ·rename_i n new hsrc
    obtain⟨news,hf,hvn,hln,hnl⟩:=sS (P:=P) hsrc hH hy
    obtain⟨newsD,hfD,hvnD,_,_⟩:=sS (P:=P) hsrc hH.drew hy
    obtain⟨p,ccap,rfl,hcap,hlen,hex,hnil⟩:=iv hx
    have hnewsl:news.length=n*size:=by rw[←hvn.length,hnl]
    obtain⟨ei,hti,hsz,hby,hpos,_⟩:=lI he
    unfold rS at h
    split at h
    ·
     rename_i h0
     have h0:=Nat.beq_eq.mp h0
     subst h0
     cases h
     have hnews:news=[]:=by simpa using hnewsl
     subst hnews
     refine⟨_,bt (run_append_room hX (base:=p) (w':=w) hu hi hu2 he hln hf (by omega) ?_),by simpa using hx⟩
     cases p<;>simp[storeCells]
    ·rename_i h0
     have h0:n≠0:=fun e=>by rw[e] at h0;simp at h0
     split at h
     ·cases h
     ·rename_i hone
      split at h
      ·
       rename_i hroom
       have hroom:=Nat.ble_eq.mp hroom
       unfold uW at h
       split at h
       ·rename_i b off es
        split at h
        ·rename_i c m hc
         split at h
         ·rename_i c' hst
          cases h
          have hx0:=hx
          simp only[VR] at hx
          obtain⟨cb,d,o,m0,hb,hcv,ho,hle1,hle2,hexx,hrm⟩:=hx
          simp only[Value.slice.injEq,true_and] at hcv
          obtain⟨rfl,rfl⟩:=hcv
          have ho:=ho (.inl (by omega))
          subst ho
          obtain⟨w',g1,g2,g3⟩:=hH.store (P:=P) hb hc hst hvn hone
          refine⟨_,w',_, .inl (bt (run_append_room hX hu hi hu2 he hln hf (by omega) ?_)),?_,g2,g3⟩
          ·simp only[add_eq];rw[Nat.add_assoc];exact g1
          ·simp only[VR]
           exact⟨cb,d,_,_,hb,rfl,fun _=>rfl,hroom,hcap,hexx,hrm⟩
         ·cases h
        ·cases h
       ·cases h
      ·
       rename_i hroom
       have hroom:¬len+n≤cap:=fun e=>by rw[Nat.ble_eq.mpr e] at hroom;cases hroom
       split at h
       ·rename_i hsmall
        have hsmall:=Nat.ble_eq.mp hsmall
        have fresh:∀ (s0:St) (c':Tr AV) (fl:Nat),HR P ι s0 w→Ext ι s w ι s0 w→s0.nx=s.nx→¬len+n≤ccap→(∃olds:List Value,(Builtin.firstCells size len (.slice p len ccap)).run P w.drew= .ok olds.toArray w.drew∧olds.length=len*size∧
           ∀i v,c'.get i=some v→(i<len*size∧∃cv,olds[i]? =some cv∧VR ι v cv)∨(len*size≤i∧new[i- len*size]? =some v))→(s0.jU c' ((len+n)*size+fl)).1=s.nx∧
          iX P ι s w (.val (.slc (some ((s0.jU c' ((len+n)*size+fl)).1,0,size)) (len+n) (len+n) false) (s0.jU c' ((len+n)*size+fl)).2) ((do pure (.value (←Builtin.append_ (t::u::rest).toArray ty #[.slice p len ccap,cy])):Sem Next).run P w):=fun s0 c' fl h0 hE hnx hno ⟨olds,k1,k2,k3⟩=>by
         obtain⟨zc,hzc,hrun⟩:=wg hX (ty:=ty) (rest:=rest) hu hi hu2 he hln k1 hfD hno hsmall
         have hge:=grownCap_ge w (len+n) ccap e
         generalize grownCap w (len+n) ccap e=G at hrun hge
         have hrow:(olds.toArray++newsD.toArray++Builtin.zeroCells zc (G- (len+n))).size=G*size:=by
          have h2:newsD.length=n*size:=by rw[←hvnD.length,hnl]
          simp only[Array.size_append,List.size_toArray,k2,h2,Builtin.zeroCells,Array.size_map,Array.size_range,hzc]
          rw[←Nat.add_mul,←Nat.add_mul];congr 1;omega
         have hw:(w.drew.alloc (.cells (olds.toArray++newsD.toArray++Builtin.zeroCells zc (G- (len+n))) e)).heap=w.heap.push (.cells (olds.toArray++newsD.toArray++Builtin.zeroCells zc (G- (len+n))) e):=rfl
         have e1:s0.jU c' ((len+n)*size+fl)=s0.new (.cells c' ((len+n)*size+fl)):=by simp[St.jU]
         rw[e1]
         obtain⟨g1,g2⟩:=h0.new (z:=G*size) hw ⟨rfl,rfl⟩ (ab:= .cells c' ((len+n)*size+fl)) (fun κ hκ=>by
          refine⟨_,e,(0,0),by rw[hw];exact dT,fun j hj=>⟨by rw[hrow];exact hj,by simp⟩,fun i v hiv=>?_,fun _=>by simp⟩
          have hmul:(len+n)*size=len*size+n*size:=Nat.add_mul _ _ _
          have hGm:(len+n)*size≤G*size:=Nat.mul_le_mul_right _ hge
          rcases k3 i v hiv with⟨a1,cv,a2,a3⟩|⟨a1,a2⟩
          ·refine⟨by omega,by simp only;omega,cv,?_,a3.mono hκ⟩
           simp only[Nat.zero_add]
           rw[Array.getElem?_append_left (by simp;omega),Array.getElem?_append_left (by simp;omega)]
           simpa using a2
          ·obtain⟨cv,a3,a4⟩:=hvnD.get a2
           have hlt:i- len*size<newsD.length:=by
            rcases Nat.lt_or_ge (i- len*size) newsD.length with h'|h'
            ·exact h'
            ·rw[List.getElem?_eq_none h'] at a3;cases a3
           have h2:newsD.length=n*size:=by rw[←hvnD.length,hnl]
           refine⟨by omega,by simp only;omega,cv,?_,a4.mono hκ⟩
           simp only[Nat.zero_add]
           rw[Array.getElem?_append_left (by simp;omega),Array.getElem?_append_right (by simp;omega)]
           simp only[List.size_toArray,k2]
           simpa using a3)
         refine⟨hnx,_,_,_, .inl (bt hrun),?_,g1,hE.trans g2⟩
         simp only[VR,St.new]
         exact⟨_,_,_,_,Inj.db _ _ _,rfl,fun _=>rfl,Nat.le_refl _,hge,(fun e=>by cases e),by simp⟩
        unfold kW at h
        split at h
        ·
         cases h
         obtain⟨rfl,rfl,rfl⟩:=hnil rfl
         simp only[VR] at hx
         obtain⟨_,_,_,hcv⟩:=hx
         simp only[Value.slice.injEq,true_and] at hcv
         subst hcv
         have e1:(0+n)*size=new.length:=by rw[hnl];simp
         obtain⟨_,fr⟩:=fresh s (Tr.of new) 0 hH (Ext.refl _ _ _) rfl (by omega) ⟨[],by simp[Builtin.firstCells],by simp,fun i v hiv=> .inr ⟨by omega,by simpa using Tr.dF hiv⟩⟩
         rw[e1] at fr
         simpa using fr
        ·rename_i b off es
         split at h
         ·rename_i c m hes hc
          have hes:=Nat.beq_eq.mp hes
          subst hes
          unfold qC at h
          split at h
          ·rename_i c' hold
           cases h
           simp only[VR] at hx
           obtain⟨cb,d,o,m0,hb,hcv,ho,hle1,hle2,hexx,hrm⟩:=hx
           simp only[Value.slice.injEq,true_and] at hcv
           obtain⟨rfl,rfl⟩:=hcv
           obtain⟨cs,el,fz,k1,k0,k2⟩:=hH.cells hb hc
           obtain⟨⟨old,hld⟩,hc'⟩:=tP hold (fun i v hv=>(k2 i v hv).1)
           have hol:0<len→o=d.1+off:=fun h=>ho (.inl (by omega))
           have oldsE:∃olds:List Value,(Builtin.firstCells es len (.slice (some ⟨cb,o,none⟩) len ccap)).run P w.drew= .ok olds.toArray w.drew∧olds.length=len*es∧
             ∀i v,c'.get i=some v→(i<len*es∧∃cv,olds[i]? =some cv∧VR ι v cv)∨(len*es≤i∧new[i- len*es]? =some v):=by
            rcases Nat.eq_zero_or_pos len with h0l|hpl
            ·subst h0l
             refine⟨[],by simp[Builtin.firstCells,loadCells,loadCellsFrom],by simp,fun i v hiv=>?_⟩
             rcases hc' i v hiv with⟨a1,_⟩|a
             ·simp at a1
             ·exact .inr a
            ·have:=hol hpl
             subst this
             obtain⟨vs,g1,g2⟩:=zr (P:=P) hH.drew ⟨b,hb,hc⟩ hld
             obtain⟨q1,q2⟩:=mo hld
             refine⟨vs,by simpa[Builtin.firstCells] using g1,by rw[←g2.length,q1],fun i v hiv=>?_⟩
             rcases hc' i v hiv with⟨a1,a2⟩|a
             ·left
              refine⟨a1,?_⟩
              have:old[i]? =some v:=by
               have hi':i<old.length:=by omega
               have h3:=q2 i old[i] (by simp[hi'])
               rw[h3] at a2
               rw[List.getElem?_eq_getElem hi'];exact a2
              exact g2.get this
             ·exact .inr a
           cases hexa:exact with
           |true=>
            obtain⟨_,fr⟩:=fresh s c' (cD m) hH (Ext.refl _ _ _) rfl (by have:=hexx hexa;omega) oldsE
            exact fr
           |false=>
            have hdel:=(hH.del b).shift s.nx
            have hEdel:Ext ι s w ι {s with h:=s.h.del b,sh:=s.nx::s.sh} w:=⟨ι.le_refl,Nat.le_refl _,fun cb' _ ho'=>⟨rfl,fun⟨b',d',ab,q1,q2⟩=>ho' ⟨b',d',ab,q1,(Tr.fu q2).2⟩⟩,fun _ _=>rfl,Nat.le_refl _,Kin.refl _,fun _ _ _ ⟨b',d',ab,q1,q2,q3⟩=>⟨b',d',ab,q1,(Tr.fu q2).2,q3⟩,fun _=> .same rfl⟩
            by_cases hno:len+n≤ccap
            ·
             have hroomZ:∀j,o≤j→j<o+ccap*es→d.2 j:=hrm
             have hmul:len*es+n*es≤ccap*es:=by rw[←Nat.add_mul];exact Nat.mul_le_mul_right _ hno
             obtain⟨w',cs',g1,g2,g3,g4,g0,g5,g6⟩:=Dj (P:=P) cb (o+len*es) el fz news 0 cs w k1 (hvn.zK hone) (fun j hj=>by
              have:=k0 (o+len*es+0+j) (hroomZ _ (by omega) (by omega))
              exact this)
             have hrun:=run_append_room hX (ty:=ty) (rest:=rest) (base:=some ⟨cb,o,none⟩) (w':=w') hu hi hu2 he hln hf hno (by simp only[add_eq];exact g1)
             have e1:({s with h:=s.h.del b,sh:=s.nx::s.sh}:St).jU c' ((len+n)*es+cD m)=({s with h:=s.h.del b,sh:=s.nx::s.sh}:St).new (.cells c' ((len+n)*es+cD m)):=by simp[St.jU]
             simp only[e1]
             let κ:Inj:=ι.at s.nx (cb,o,d.2)
             have hfresh:=hH.fresh
             have hle:ι.le κ:=Inj.yj hfresh
             have oldι:∀b' x,b'≠s.nx→κ b'=some x→ι b'=some x:=fun b' x hb' hx'=>by
              simp only[κ,Inj.at] at hx';rwa [if_neg hb'] at hx'
             have hbr:BR P κ w' cb (o,d.2) (.cells c' ((len+n)*es+cD m)):=by
              refine⟨cs',el,fz,g2,fun j hj=>by rw[g5];exact k0 j hj,fun i v hiv=>?_,fun hw=>by rw[g5];exact hH.plain hb (St.dK hc) (En hw) k1⟩
              have hmul2:(len+n)*es=len*es+n*es:=Nat.add_mul _ _ _
              rcases hc' i v hiv with⟨a1,a2⟩|⟨a1,a2⟩
              ·have hpl:0<len:=by
                rcases Nat.eq_zero_or_pos len with h'|h'
                ·subst h';simp at a1
                ·exact h'
               have hoo:=hol hpl
               obtain⟨_,q2,cv,q3,q4⟩:=k2 _ _ a2
               refine⟨by omega,by simp only;exact hroomZ _ (by omega) (by omega),cv,?_,q4.mono hle⟩
               simp only
               rw[g6,if_neg (by omega)]
               rw[←q3];congr 1;omega
              ·obtain⟨cv,q3,q4⟩:=hvn.get a2
               have hlt:i- len*es<news.length:=by
                rcases Nat.lt_or_ge (i- len*es) news.length with h'|h'
                ·exact h'
                ·rw[List.getElem?_eq_none h'] at q3;cases q3
               refine⟨by omega,by simp only;exact hroomZ _ (by omega) (by omega),cv,?_,q4.mono hle⟩
               simp only
               rw[g6,if_pos (by omega)]
               rw[←q3];congr 1;omega
             have live:∀b' ab,(({s with h:=s.h.del b,sh:=s.nx::s.sh}:St).new (.cells c' ((len+n)*es+cD m))).2.h.get b'=some ab→(b'=s.nx∧AB.cells c' ((len+n)*es+cD m)=ab)∨(b'≠s.nx∧b'≠b∧s.h.get b'=some ab):=fun b' ab hg=>by
              rcases Tr.df hg with a|⟨a,hg⟩
              ·exact .inl a
              ·exact .inr ⟨a,Tr.fu hg⟩
             have hE:Ext ι s w κ (({s with h:=s.h.del b,sh:=s.nx::s.sh}:St).new (.cells c' ((len+n)*es+cD m))).2 w':=by
              refine⟨hle,by rw[g3];exact Nat.le_refl _,fun cb' hcb' ho'=>⟨g4 cb' (fun e=>?_),?_⟩,fun b' hb'=>by simp only[κ,Inj.at];rw[if_neg (by omega)],Nat.le_succ _,g0,fun cb' hcb' j=>?_,fun cb'=>?_⟩
              ·subst e;exact ho' ⟨b,d,_,hb,St.dK hc⟩
              ·rintro⟨b',d',ab,q1,q2⟩
               rcases live b' ab q2 with⟨e,_⟩|⟨e,_,q2⟩
               ·subst e
                simp only[κ,Inj.at,if_true,Option.some.injEq,Prod.mk.injEq] at q1
                obtain⟨rfl,_⟩:=q1
                exact ho' ⟨b,d,_,hb,St.dK hc⟩
               ·exact ho' ⟨b',d',ab,oldι _ _ e q1,q2⟩
              ·rintro⟨b',d',ab,q1,q2,q3⟩
               rcases live b' ab q2 with⟨e,_⟩|⟨e,_,q2⟩
               ·subst e
                simp only[κ,Inj.at,if_true,Option.some.injEq,Prod.mk.injEq] at q1
                obtain⟨rfl,rfl⟩:=q1
                exact⟨b,d,_,hb,St.dK hc,q3⟩
               ·exact⟨b',d',ab,oldι _ _ e q1,q2,q3⟩
              ·by_cases e:cb'=cb
               ·subst e
                intro cs0 e0 fz0 hc0
                rw[k1] at hc0;cases hc0
                refine⟨cs',g2,g5,fun j hj=>?_⟩
                rw[g6]
                split
                ·exact absurd ⟨b,d,_,hb,St.dK hc,hroomZ j (by omega) (by omega)⟩ hj
                ·rfl
               ·exact .same (g4 cb' e)
             refine⟨κ,w',_, .inl (bt hrun),?_,⟨hH.gl.ext hE rfl,fun b' cb' d' hx' hs=>?_,fun b' x hx'=>?_,fun b' cb' d' ab hx' hg=>?_,fun b1 b2 cb' d1 d2 ab1 ab2 q1 q2 g1' g2'=>?_⟩,hE⟩
             ·simp only[VR,St.new]
              exact⟨cb,(o,d.2),o,ccap,by simp[κ,Inj.at],rfl,fun _=>rfl,Nat.le_refl _,hno,fun e=>(by cases e),hrm⟩
             ·have hs:dx b' (s.nx::s.sh)=false:=hs
              exact hH.base b' cb' d' (oldι b' _ (lG hs).1 hx') (lG hs).2
             ·show b'<s.nx+1
              by_cases e:b'=s.nx
              ·omega
              ·have:=hH.dom b' x (oldι b' x e hx');omega
             ·rcases live b' ab hg with⟨e,e'⟩|⟨e,e',hg⟩
              ·subst e;subst e'
               simp only[κ,Inj.at,if_true,Option.some.injEq,Prod.mk.injEq] at hx'
               obtain⟨rfl,rfl⟩:=hx'
               exact hbr
              ·have hx':=oldι b' _ e hx'
               have hne:cb'≠cb:=fun ee=>e' (hH.inj b' b cb' d' d _ _ hx' (ee▸hb) hg (St.dK hc))
               exact(hH.br b' cb' d' ab hx' hg).frame (g4 cb' hne) hle
             ·rcases live b1 ab1 g1' with⟨e,_⟩|⟨e,e',g1'⟩<;>rcases live b2 ab2 g2' with⟨f,_⟩|⟨f,f',g2'⟩
              ·rw[e,f]
              ·subst e
               simp only[κ,Inj.at,if_true,Option.some.injEq,Prod.mk.injEq] at q1
               obtain⟨rfl,_⟩:=q1
               exact absurd (hH.inj b2 b cb d2 d _ _ (oldι _ _ f q2) hb g2' (St.dK hc)) f'
              ·subst f
               simp only[κ,Inj.at,if_true,Option.some.injEq,Prod.mk.injEq] at q2
               obtain⟨rfl,_⟩:=q2
               exact absurd (hH.inj b1 b cb d1 d _ _ (oldι _ _ e q1) hb g1' (St.dK hc)) e'
              ·exact hH.inj b1 b2 cb' d1 d2 _ _ (oldι _ _ e q1) (oldι _ _ f q2) g1' g2'
            ·obtain⟨_,fr⟩:=fresh {s with h:=s.h.del b,sh:=s.nx::s.sh} c' (cD m) hdel hEdel rfl hno oldsE
             exact fr
          ·cases h
         ·cases h
       ·cases h
   ·cases h
  ·cases h
 ·cases h
end
end Go.Am
end
section
namespace Go.Am
section
variable {P:Program}{X:Ctx}(hX:dU P X){ι:Inj}{s:St}{w:World}
theorem Str.J2 (bs:ByteArray)(b:UInt8)(n:Nat)(h:b.toNat=n):Str.of (bs.push b)=⟨(Str.of bs).len+1,(Str.of bs).val*256+n⟩:=by
 subst h
 simp[Str.of,ByteArray.push,iU,nJ]
 simp[gi]
theorem vB:∀ (l:List AV) (cl:List Value) (a:Str) (v:Str) (bs:ByteArray),bytesOf.go l a=some v→VRs ι l cl→a=Str.of bs→
  ∃bs',v=Str.of bs'∧∃ns:List Int,cl=ns.map (Value.int .u8)∧bs'=ns.foldl (fun r n=>r.push (UInt8.ofNat n.toNat)) bs
 |[],cl,a,v,bs,h,hl,ha=>by
  cases cl with
  |nil=>simp only[bytesOf.go,Option.some.injEq] at h;subst h;exact⟨bs,ha,[],rfl,rfl⟩
  |cons _ _=>simp[VRs] at hl
 |x::l,cl,a,v,bs,h,hl,ha=>by
  cases cl with
  |nil=>simp[VRs] at hl
  |cons cx cl=>
   simp only[VRs] at hl
   unfold bytesOf.go at h
   split at h
   ·rename_i e;cases e
   ·rename_i n l' e
    cases e
    split at h
    ·rename_i hn
     have hcx:=hl.1.int
     subst hcx
     obtain⟨bs',h1,ns,h2,h3⟩:=vB _ cl _ v (bs.push (UInt8.ofNat n.toNat)) h hl.2 (by
      subst ha
      have hb:(UInt8.ofNat n.toNat).toNat=n.toNat:=by
       rw[UInt8.toNat_ofNat'];omega
      exact(Str.J2 bs (UInt8.ofNat n.toNat) n.toNat hb).symm)
     exact⟨bs',h1,n::ns,by simp[h2],by simpa using h3⟩
    ·cases h
   ·cases h
theorem KU {a:Option (Nat×Nat×Nat)}{len cap n:Nat}{x:Bool}{p:Option Addr}{ccap:Nat}(h:VR ι (.slc a len cap x) (.slice p len ccap))(hn:n≤len):VR ι (.slc a n n (match a with|none=>true|some _=>false)) (.slice p n (match a with|none=>0|some _=>ccap)):=by
 cases a with
 |none=>
  simp only[VR] at h ⊢
  obtain⟨rfl,rfl,rfl,h4⟩:=h
  simp only[Value.slice.injEq] at h4
  obtain⟨rfl,_,rfl⟩:=h4
  have hn0:n=0:=by omega
  simp[hn0]
 |some q=>
  obtain⟨b,o,es⟩:=q
  simp only[VR] at h ⊢
  obtain⟨cb,d,off,m,h1,h2,h3,h4,h5,h6,h7⟩:=h
  simp only[Value.slice.injEq,true_and] at h2
  obtain⟨rfl,rfl⟩:=h2
  exact⟨cb,d,off,_,h1,rfl,fun hh=>h3 (.inl (by rcases hh with hh|hh;omega;cases hh)),Nat.le_refl _,by omega,(fun e=>by cases e),h7⟩
theorem Av {size n m:Nat}{y:AV}{cy:Value}{k:Nat}{new:List AV}(h:aZ s size (cutAt n y)=some (k,new))(hl:lenOf y=some m)(hn:n≤m)(hH:HR P ι s w)(hy:VR ι y cy):
  ∃news:List Value,(Builtin.firstCells size n cy).run P w= .ok news.toArray w∧VRs ι new news∧(Builtin.lenOf cy).run P w= .ok m w:=by
 unfold lenOf at hl
 split at hl
 ·rename_i a len cap x
  cases hl
  obtain⟨p,ccap,rfl,h1,h2,h3,h4⟩:=iv hy
  simp only[cutAt] at h
  cases a with
  |none=>
   have hz:=(h4 rfl).2.1
   have hp:=(h4 rfl).1
   subst hp
   simp only[aZ] at h
   split at h
   ·cases h;exact⟨[],by simp[Builtin.firstCells],by simp[VRs],by simp[Builtin.lenOf]⟩
   ·cases h
  |some q=>
   have hc:=KU hy hn
   simp only at hc
   obtain⟨news,g1,g2,g3,g4⟩:=sS (P:=P) h hH hc
   have hk:k=n:=by simp[Builtin.lenOf] at g3;omega
   subst hk
   refine⟨news,?_,g2,by simp[Builtin.lenOf]⟩
   cases p with
   |none=>simpa[Builtin.firstCells] using g1
   |some p=>simpa[Builtin.firstCells] using g1
 ·rename_i a
  cases hl
  obtain⟨bs,rfl,rfl⟩:=hy.str
  have hle:n≤bs.data.toList.length:=by simpa[Str.of] using hn
  simp only[cutAt] at h
  rw[D3 hle] at h
  obtain⟨news,g1,g2,g3,g4⟩:=sS (P:=P) (cy:= .string (bs.extract 0 n)) h hH (by simp[VR])
  have hk:k=n:=by
   simp only[Builtin.lenOf,Sem.run_pure,Result.ok.injEq,and_true,ByteArray.size_extract] at g3
   have:bs.size=bs.data.toList.length:=by simp only[ByteArray.size,Array.length_toList]
   omega
  subst hk
  refine⟨news,?_,g2,by simp[Builtin.lenOf,Str.of]⟩
  simp only[Builtin.firstCells,Sem.run_pure] at g1 ⊢
  rw[←g1]
  have e:(bs.extract 0 k).extract 0 k=bs.extract 0 k:=by rw[ByteArray.extract_extract];simp
  rw[e]
 ·cases hl
include hX in
theorem zb {t ty:TypeId}{rest:List TypeId}{x y:AV}{cx cy:Value}{r:OR}(h:jG X t x y s=some r)(hH:HR P ι s w)(hx:VR ι x cx)(hy:VR ι y cy):
  iX P ι s w r ((do pure (.value (←Builtin.copy_ (t::rest).toArray ty #[cx,cy])):Sem Next).run P w):=by
 unfold jG at h
 split at h
 ·rename_i e hu
  split at h
  ·rename_i size base len cap exact he
   obtain⟨p,ccap,rfl,hcap,hlen,hex,hnil⟩:=iv hx
   unfold CG at h
   split at h
   ·rename_i m hm
    unfold wR at h
    split at h
    ·rename_i k new hsrc
     obtain⟨news,h1,h2,h3⟩:=Av (P:=P) hsrc hm (Nat.min_le_left _ _) hH hy
     have hmin:Nat.min m len=min m len:=rfl
     have run:∀w',(match p with|some a=>storeCells a news|none=>pure ():Sem Unit).run P w= .ok () w'→
       (do pure (.value (←Builtin.copy_ (t::rest).toArray ty #[.slice p len ccap,cy])):Sem Next).run P w= .ok (.value (.int .i64 (min m len:Nat))) w':=fun w' hs=>by
      apply bt
      simp only[Builtin.copy_,List.getElem?_toArray,List.getElem?_cons_zero,List.getElem?_cons_succ,Sem.run_bind,aL hX hu,Result.andThen_ok,h3,cO hX he,hmin,h1]
      cases p with
      |none=>simp only[Sem.run_pure,Result.ok.injEq,true_and] at hs;subst hs;simp[goInt]
      |some a=>simp only at hs;simp[hs,goInt]
     split at h
     ·cases h
      have hp:=(hnil rfl).1
      subst hp
      exact⟨_,run w (by simp),by simp[VR]⟩
     ·rename_i b off es
      split at h
      ·rename_i h0
       cases h
       have h0:=Nat.beq_eq.mp h0
       refine⟨_,run w ?_,by simp[VR]⟩
       have hc:news=[]:=by
        have h5:(Builtin.firstCells size 0 cy).run P w= .ok news.toArray w:=by rw[←h0];exact h1
        cases cy with
        |slice q _ _=>
         cases q with
         |none=>simp[Builtin.firstCells] at h5;first|exact h5|exact h5.symm
         |some q=>simp[Builtin.firstCells,loadCells,loadCellsFrom] at h5;first|exact h5|exact h5.symm
        |string bs=>
         simp[Builtin.firstCells] at h5
         first|exact h5|exact h5.symm
        | _=>simp[Builtin.firstCells,stuck] at h5
       subst hc
       cases p<;>simp[storeCells]
      ·rename_i c k' h0 hone hc
       split at h
       ·rename_i c' hst
        cases h
        have hx0:=hx
        simp only[VR] at hx
        obtain⟨cb,d,o,m0,hb,hcv,ho,hle1,hle2,hexx,hrm⟩:=hx
        simp only[Value.slice.injEq,true_and] at hcv
        obtain⟨rfl,rfl⟩:=hcv
        have hlen0:0<len:=by
         rcases Nat.eq_zero_or_pos len with e|e
         ·subst e;simp at h0
         ·exact e
        have ho:=ho (.inl (by omega))
        subst ho
        obtain⟨w',g1,g2,g3⟩:=hH.store (P:=P) hb hc hst h2 hone
        exact⟨_,w',_, .inl (run w' g1),by simp[VR],g2,g3⟩
       ·cases h
      ·cases h
    ·cases h
   ·cases h
  ·cases h
 ·cases h
include hX in
theorem uw {a b:TypeId}{x:AV}{cx:Value}{r:OR}(h:bH X a b x s=some r)(hH:HR P ι s w)(hx:VR ι x cx):
  iX P ι s w r ((do pure (.value (←convert a b cx)):Sem Next).run P w):=by
 unfold bH at h
 split at h
 ·rename_i d k k' n ha hb
  cases h
  have:=hx.int
  subst this
  refine⟨_,bt (cv:= .int k (k.wrap n)) ?_,by simp[VR,tQ]⟩
  simp[convert,aL hX ha,aL hX hb,Conv.intToInt]
 ·rename_i d k k' b m r ha hb
  split at h
  ·rename_i hfit
   cases h
   simp only[VR] at hx
   obtain⟨n,rfl,hn,hr⟩:=hx
   refine⟨_,bt (cv:= .int k (k.wrap n)) ?_,by
    simp only[VR]
    exact⟨n,by rw[iS (LI hfit hn)],hn,hr⟩⟩
   simp[convert,aL hX ha,aL hX hb,Conv.intToInt]
  ·cases h
 ·rename_i d v ha hb
  cases h
  obtain⟨bs,rfl,rfl⟩:=hx.str
  refine⟨_,bt (cv:= .string bs) ?_,hx⟩
  simp[convert,aL hX ha,aL hX hb]
 ·rename_i e v ha hb
  obtain⟨bs,rfl,rfl⟩:=hx.str
  unfold iI at h
  split at h
  ·rename_i he
   split at h
   ·rename_i hlen
    cases h
    have hrun:=run_bytes_of_string (P:=P) w a b e bs (fG hX ha) (fG hX hb) (fG hX he)
    have hge:=grownCap_ge w bs.size 0 e
    have hsz:bs.size=(Str.of bs).len:=by simp[Str.of]
    have hl:bs.data.toList.length=bs.size:=by simp only[ByteArray.size,Array.length_toList]
    generalize grownCap w bs.size 0 e=G at hrun hge
    have hrow:(bytesRow bs G).size=G:=by simp[bytesRow];omega
    have e1:s.jU (Tr.of (fX (Str.of bs) (Str.of bs).len)) ((Str.of bs).len+iM)=s.new (.cells (Tr.of (fX (Str.of bs) (Str.of bs).len)) ((Str.of bs).len+iM)):=by simp[St.jU]
    rw[e1]
    obtain⟨g1,g2⟩:=hH.new (z:=G) (w':=w.drew.alloc (.cells (bytesRow bs G) e ((bytesRow bs G).size,(bytesRow bs G).size+1))) rfl ⟨rfl,rfl⟩ (ab:= .cells (Tr.of (fX (Str.of bs) (Str.of bs).len)) ((Str.of bs).len+iM)) (fun κ hκ=>by
     refine⟨_,e,_,dT,fun j hj=>⟨by rw[hrow];exact hj,by rw[hrow];simp only at hj ⊢;omega⟩,fun i v hiv=>?_,fun hw=>absurd hw (by omega)⟩
     have hiv:=Tr.dF hiv
     rw[mV] at hiv
     have hi:i<bs.size:=by
      have:=(List.getElem?_eq_some_iff.1 hiv).1
      simpa using this
     refine⟨by omega,by simp only;omega, .int .u8 (bs.data[i].toNat:Int),?_,?_⟩
     ·simp only[Nat.zero_add,bytesRow]
      rw[Array.getElem?_append_left (by simpa using hi)]
      simp[Array.getElem?_eq_getElem (show i<bs.data.size from hi)]
     ·have h1:(bs.data.toList.map fun b=>AV.int .u8 (b.toNat:Int))[i]? =some (.int .u8 (bs.data[i].toNat:Int)):=by
       simp[Array.getElem?_eq_getElem (show i<bs.data.size from hi)]
      rw[h1] at hiv
      cases hiv
      simp[VR])
    refine⟨_,_,_, .inl (bt hrun),?_,g1,g2⟩
    simp only[VR,St.new]
    exact⟨_,_,_,_,Inj.db _ _ _,by rw[hsz],fun _=>rfl,Nat.le_refl _,by omega,(fun e=>by cases e),by simp⟩
   ·cases h
  ·cases h
 ·rename_i e a' n cap ex ha hb
  obtain⟨p,ccap,rfl,hcap,hlen,hex,hnil⟩:=iv hx
  unfold pN at h
  split at h
  ·rename_i he
   split at h
   ·rename_i k l hsrc
    split at h
    ·rename_i v hv
     cases h
     obtain⟨news,h1,h2,h3⟩:=Av (P:=P) (size:=1) (n:=n) (m:=n) (y:= .slc a' n cap ex) hsrc rfl (Nat.le_refl _) hH hx
     obtain⟨bs',g1,ns,g2,g3⟩:=vB l news _ v ByteArray.empty hv h2 (by simp[Str.of,gi])
     refine⟨.string bs',bt ?_,by subst g1;simp[VR]⟩
     rw[run_convert_bytes_string w a b e p n ccap (fG hX ha) (fG hX he) (fG hX hb)]
     cases p with
     |none=>
      simp only[Builtin.firstCells,Sem.run_pure,Result.ok.injEq,and_true] at h1
      have:news=[]:=by
       have:=congrArg Array.toList h1
       simpa using this.symm
      subst this
      cases ns with
      |nil=>simp only[List.foldl_nil] at g3;subst g3;simp[Conv.bytesToString]
      |cons _ _=>simp at g2
     |some q=>
      rw[g3]
      refine run_bytesToString w q n ccap ns ?_
      rw[g2] at h1
      simpa[Builtin.firstCells] using h1
    ·cases h
   ·cases h
  ·cases h
 ·cases h
end
end Go.Am
end
section
namespace Go.Am
def sn (P:Program)(ι:Inj)(w:World)(res:Result Next)(ab:AB)(f:Nat→AV):Prop:=
 ∃o z cv w',res= .ok (.value cv) w'∧w'.heap=w.heap.push o∧Kin w w'∧(∀κ,ι.le κ→BR P κ w' w.heap.size (0,up z) ab)∧∀κ b,κ b=some (w.heap.size,0,up z)→VR κ (f b) cv
section
variable {P:Program}{X:Ctx}(hX:dU P X){ι:Inj}{s:St}{w:World}
theorem vU {P:Program}{cs:List AV}{cvs:Array Value}{w':World}{elem:TypeId}(hv:VRs ι cs (cvs.toList.take cs.length))
  {fz:Nat×Nat}(hfz:fz=(0,0)∨False)(hw:w'.heap=w.heap.push (.cells cvs elem fz))(κ:Inj)(hκ:ι.le κ):BR P κ w' w.heap.size (0,up cvs.size) (.cells (Tr.of cs) cs.length):=by
 refine⟨cvs,elem,fz,by rw[hw];exact dT,fun j hj=>⟨hj,?_⟩,fun i v hi=>?_,fun _=>by rcases hfz with rfl|h'<;>simp_all⟩
 ·simp only at hj
  rcases hfz with rfl|h'
  ·simp
  ·exact h'.elim
 ·have hi:=Tr.dF hi
  have hlt:i<cs.length:=by
   rcases Nat.lt_or_ge i cs.length with h'|h'
   ·exact h'
   ·rw[List.getElem?_eq_none h'] at hi;cases hi
  obtain⟨cv,h1,h2⟩:=hv.get hi
  rw[List.getElem?_take] at h1
  split at h1
  ·have h1:cvs[i]? =some cv:=by simpa using h1
   have hsz:i<cvs.size:=by
    rcases Nat.lt_or_ge i cvs.size with h'|h'
    ·exact h'
    ·rw[Array.getElem?_eq_none h'] at h1;cases h1
   exact⟨hlt,by simpa using hsz,cv,by simpa using h1,h2.mono hκ⟩
  ·exact absurd hlt (by assumption)
theorem VRs.wu {cs:List AV}{cvs:Array Value}(hv:VRs ι cs cvs.toList):VRs ι cs (cvs.toList.take cs.length):=by
 rw[hv.length,List.take_length];exact hv
theorem u0 (s:St)(c:Tr AV)(n:Nat):s.jU c n=s.new (.cells c n):=by simp[St.jU]
theorem sM {cs:List AV}{r:OR}(h:dO cs s=some r):aX cs=true∧∀s',dO cs s'=some (.val (.ptr (some (s'.nx,0))) (s'.new (.cells (Tr.of cs) cs.length)).2):=by
 unfold dO at h ⊢
 split at h
 ·rename_i ho
  exact⟨ho,fun s'=>by simp only[u0];rfl⟩
 ·cases h
theorem ub {cs:List AV}{ccs:Array Value}{elem:TypeId}(hv:VRs ι cs ccs.toList){res:Result Next}(hr:res= .ok (.value (.pointer (some ⟨w.heap.size,0,none⟩))) {w with heap:=w.heap.push (.cells ccs elem)}):
  sn P ι w res (.cells (Tr.of cs) cs.length) fun b=> .ptr (some (b,0)):=
 ⟨_,ccs.size,_,_,hr,rfl,⟨rfl,rfl⟩,vU (elem:=elem) hv.wu (.inl rfl) rfl,fun κ b hb=>by simp only[VR];exact⟨_,_,hb,rfl⟩⟩
include hX in
theorem AL {t:TypeId}{r:OR}(h:ja X t s=some r):∃ab f,(∀s',ja X t s'=some (.val (f s'.nx) (s'.new ab).2))∧∀ι w,sn P ι w ((do pure (.value (←Instr.alloc t true (.tuple #[]))):Sem Next).run P w) ab f:=by
 unfold ja at h
 split at h
 ·rename_i z hz
  obtain⟨h1,h2⟩:=sM h
  refine⟨_,fun b=> .ptr (some (b,0)),fun s'=>by unfold ja;rw[hz];exact h2 s',fun ι w=>?_⟩
  obtain⟨cz,h3,rfl⟩:=fA hX hz w
  have hv:=(jJ ι cz).cells (fI h1)
  exact ub (elem:=t) hv (by simp[Instr.alloc,h3,newVar,newRow])
 ·cases h
theorem FG {t:TypeId}{x:AV}{r:OR}(h:dY x s=some r):∃ab f,(∀s',dY x s'=some (.val (f s'.nx) (s'.new ab).2))∧∀ι w cx,VR ι x cx→sn P ι w ((do pure (.value (←Instr.box t cx)):Sem Next).run P w) ab f:=by
 unfold dY at h
 split at h
 ·cases h
 ·rename_i hne
  obtain⟨h1,h2⟩:=sM h
  refine⟨.cells (Tr.of x.cells) x.cells.length,fun b=> .ptr (some (b,0)),fun s'=>?_,fun ι w cx hx=>?_⟩
  ·unfold dY
   split
   ·exact absurd rfl hne
   ·exact h2 s'
  have hv:=hx.cells (fI h1)
  exact ub (elem:=t) hv (by simp[Instr.box,newVar,newRow])
include hX in
theorem z9 {t:TypeId}{len:Nat}{ps:Array (Nat×Operand)}{fr:Fr}{r:OR}(h:bB X t len (parts fr ps) s=some r):
  ∃ab f,(∀s',bB X t len (parts fr ps) s'=some (.val (f s'.nx) (s'.new ab).2))∧∀ι w (a:Act),(∀p∈ps.toList,VR ι (fr.opd p.2) (a.eval p.2))→sn P ι w ((do pure (.value (←Instr.buildSlice t len (ps.map fun(i,x)=>(i,a.eval x)))):Sem Next).run P w) ab f:=by
 have h0:=h
 unfold bB at h
 split at h
 ·rename_i elem hu
  split at h
  ·rename_i n z hn hz
   split at h
   ·rename_i hc
    have hcc:=hc
    simp only[Bool.and_eq_true] at hc
    have c1:=Nat.ble_eq.mp hc.1.1
    have c2:=Nat.beq_eq.mp hc.1.2
    have c3:=Nat.blt_eq.mp hc.2
    unfold eG at h
    split at h
    ·rename_i cs hcs
     unfold fE at h
     split at h
     ·rename_i hone
      refine⟨.cells (Tr.of cs) cs.length,fun b=> .slc (some (b,0,n)) len len true,fun s'=>?_,fun ι w a hf=>?_⟩
      ·unfold bB eG fE
       simp only[hu,hn,hz,hcc,hcs,hone,u0]
       rfl
      ·have hps:=q6 (ι:=ι) ps hf
       obtain⟨cz,h1,rfl⟩:=fA hX hz w
       have hzc:VRs ι (ofV cz).cells cz.cells.toList:=by
        by_cases e:ofV cz= .top
        ·rw[e]
         cases cz<;>first
          |(simp[ofV,pe] at e;done)
          |exact VRs.one (by simp[VR])
          |skip
         all_goals exact VRs.one (by simp[VR])
        ·exact(jJ ι cz).cells e
       have hsz:cz.cells.size=n:=by have:=hzc.length;simp at this;omega
       have hrep:=pB hzc len
       obtain⟨ccs',h2,h3⟩:=pU (cplace:=fun i=>some (i*n,n)) (fun i x hx=>hx) _ _ _ _ _ hcs hps hrep
       have hcl:=h3.length
       have hlen:cs.length=ccs'.size:=by simpa using hcl
       have hfl:cs.length=len*n:=by rw[oE _ _ _ hcs,fi,c2]
       refine⟨_,ccs'.size, .slice (some ⟨w.heap.size,0,none⟩) len len,{w with heap:=w.heap.push (.cells ccs' elem)},?_,rfl,⟨rfl,rfl⟩,vU (elem:=elem) h3.wu (.inl rfl) rfl,fun κ b hb=>?_⟩
       ·refine bt ?_
        have e1:¬(2^24<len*n):=by omega
        have e2:Instr.fill (fun i=>some (i*n,n)) ((Array.range (len*n)).map (fun i=>(if len*n=0 then(#[]:Array Value) else cz.cells)[i % (if len*n=0 then(#[]:Array Value) else cz.cells).size]!)) (ps.map fun(i,x)=>(i,a.eval x)).toList=some ccs':=by
         by_cases h0:len*n=0
         ·rw[←h2,hsz];simp only[h0,zN]
         ·simp only[h0,if_false];rw[←h2,hsz]
        simp only[Instr.buildSlice,Sem.run_bind,aL hX hu,Result.andThen_ok,cO hX hn,gt_iff_lt,e1,if_false,Sem.run_ite,Sem.run_pure,h1]
        by_cases h0:len*n=0
        ·simp only[h0,if_true] at e2 ⊢
         simp only[Result.andThen_ok,e2,Sem.run_bind,newRow,run_newObj,Result.andThen_ok,Sem.run_pure]
        ·simp only[h0,if_false] at e2 ⊢
         simp only[Result.andThen_ok,e2,Sem.run_bind,newRow,run_newObj,Result.andThen_ok,Sem.run_pure]
       ·simp only[VR]
        exact⟨_,_,_,_,hb,rfl,fun _=>rfl,Nat.le_refl _,Nat.le_refl _,fun _=>rfl,by simp[←hlen,←hfl]⟩
     ·cases h
    ·cases h
   ·cases h
  ·cases h
 ·cases h
theorem AN {t:TypeId}:∀ι w,sn P ι w ((do pure (.value (←Instr.makeMap t none)):Sem Next).run P w) (.map []) fun b=> .map (some b):=fun ι w=>
 ⟨.map #[] 0,0, .map (some w.heap.size),{w with heap:=w.heap.push (.map #[] 0)},bt (by simp[Instr.makeMap]),rfl,⟨rfl,rfl⟩,fun κ _=>⟨rfl, .nil, #[],0,dT,⟨[], .nil, .nil⟩,by simp,by simp⟩,fun κ b hb=>by simp only[VR];exact⟨_,_,hb,rfl⟩⟩
include hX in
theorem xG {t:TypeId}{l c:AV}{r:OR}(h:eF X t l c s=some r):
  ∃ab f,(∀s',eF X t l c s'=some (.val (f s'.nx) (s'.new ab).2))∧∀ι w cl cc,VR ι l cl→VR ι c cc→sn P ι w ((do pure (.value (←Instr.makeSlice t cl cc)):Sem Next).run P w) ab f:=by
 unfold eF at h
 split at h
 ·rename_i elem kl n kc m hu
  split at h
  ·rename_i k z hk hz
   unfold nf at h
   split at h
   ·rename_i hcond
    have hcc:=hcond
    simp only[Bool.and_eq_true] at hcond
    obtain⟨⟨c1,c2⟩,c4,c5⟩:=hcond
    have c1:=Nat.ble_eq.mp c1
    have c2:=Nat.ble_eq.mp c2
    have c5:=Nat.beq_eq.mp c5
    refine⟨.cells (Tr.of (lR z.cells m)) (m*k),fun b=> .slc (some (b,0,k)) n m true,fun s'=>?_,fun ι w cl cc hl hc=>?_⟩
    ·unfold eF nf
     simp only[hu,hk,hz,hcc,u0]
     rfl
    ·have el:=hl.int;have ec:=hc.int
     subst el;subst ec
     obtain⟨cz,h1,rfl⟩:=fA hX hz w
     have hzc:=(jJ ι cz).cells (fI c4)
     obtain⟨i,hi,hik,hbytes,hk1⟩:=lI hk
     have hk:=nF hk
     have hsz:cz.cells.size=k:=by have:=hzc.length;simp at this;omega
     have hrep:=pB hzc m
     have hrl:(lR (ofV cz).cells m).length=m*k:=by rw[fi,c5]
     have hb:(i.bytes:Int)*(m:Int)≤2^48:=by
      have h1:i.bytes*m≤1048576*100000:=Nat.mul_le_mul hbytes c2
      have h2:((i.bytes*m:Nat):Int)≤((1048576*100000:Nat):Int):=by exact_mod_cast h1
      rw[Int.natCast_mul] at h2
      omega
     have hwn:IntKind.i64.wrap (Int.ofNat n)=n:=by
      have:fits .i64 (.ofNat n)=true:=by simp[fits,Nat.blt_eq];omega
      exact iS this
     have hwm:IntKind.i64.wrap (Int.ofNat m)=m:=by
      have:fits .i64 (.ofNat m)=true:=by simp[fits,Nat.blt_eq];omega
      exact iS this
     have hbr:=vU (P:=P) (w:=w) (w':={w with heap:=w.heap.push (.cells ((Array.range (m*cz.cells.size)).map (fun i=>cz.cells[i % cz.cells.size]!)) elem)}) (elem:=elem) (fz:=(0,0)) hrep.wu (.inl rfl) rfl
     rw[hrl] at hbr
     refine⟨.cells ((Array.range (m*cz.cells.size)).map (fun i=>cz.cells[i % cz.cells.size]!)) elem,_, .slice (some ⟨w.heap.size,0,none⟩) n m,{w with heap:=w.heap.push (.cells ((Array.range (m*cz.cells.size)).map (fun i=>cz.cells[i % cz.cells.size]!)) elem)},bt ?_,rfl,⟨rfl,rfl⟩,hbr,fun κ b hb=>?_⟩
     ·have e1:(Int.ofNat m<0)=False:=by simp
      have e2:¬((i.bytes:Int)*(m:Int)>2^48):=by omega
      have e3:¬((n:Int)>(m:Int)):=by omega
      simp only[Instr.makeSlice,Sem.run_bind,aL hX hu,Result.andThen_ok,asInt,asIntOf,Sem.run_pure,run_typeInfo hX hi,hwn,hwm]
      have e4:(decide ((m:Int)<0)||decide ((i.bytes:Int)*(m:Int)>2^48)||decide ((n:Int)<0)||decide ((n:Int)>(m:Int)))=false:=by
       simp only[Bool.or_eq_false_iff,decide_eq_false_iff_not]
       exact⟨⟨⟨by omega,e2⟩,by omega⟩,e3⟩
      simp only[e4,Bool.false_eq_true,if_false,Sem.run_bind,Sem.run_pure,Result.andThen_ok,run_askRoom,cO hX hk,Int.toNat_natCast,Sem.run_ite,h1,←hsz]
      by_cases h0:m*cz.cells.size=0
      ·simp only[h0,if_true,Result.andThen_ok,newRow,Sem.run_bind,run_newObj,Sem.run_pure,zN]
      ·simp only[h0,if_false,Result.andThen_ok,newRow,Sem.run_bind,run_newObj,Sem.run_pure]
     ·simp only[VR]
      exact⟨_,_,_,_,hb,rfl,fun _=>rfl,c1,Nat.le_refl _,fun _=>rfl,by simp[hsz]⟩
   ·cases h
  ·cases h
 ·cases h
include hX in
theorem xg {a b e:TypeId}{v:Str}{r:OR}(ha:X.und a=some .string)(hb:X.und b=some (.slice e))(h:iI X e v s=some r):
  ∃ab f,(∀s',iI X e v s'=some (.val (f s'.nx) (s'.new ab).2))∧∀ι w cx,VR ι (.str v) cx→sn P ι w ((do pure (.value (←convert a b cx)):Sem Next).run P w) ab f:=by
 unfold iI at h
 split at h
 ·rename_i he
  split at h
  ·rename_i hlen
   refine⟨.cells (Tr.of (fX v v.len)) (v.len+iM),fun b=> .slc (some (b,0,1)) v.len v.len false,fun s'=>?_,fun ι w cx hx=>?_⟩
   ·unfold iI
    simp only[he,hlen,u0]
    rfl
   ·obtain⟨bs,rfl,rfl⟩:=hx.str
    have hrun:=run_bytes_of_string (P:=P) w a b e bs (fG hX ha) (fG hX hb) (fG hX he)
    have hge:=grownCap_ge w bs.size 0 e
    have hsz:bs.size=(Str.of bs).len:=by simp[Str.of]
    have hl:bs.data.toList.length=bs.size:=by simp only[ByteArray.size,Array.length_toList]
    generalize grownCap w bs.size 0 e=G at hrun hge
    have hrow:(bytesRow bs G).size=G:=by simp[bytesRow];omega
    refine⟨_,G,_,w.drew.alloc (.cells (bytesRow bs G) e ((bytesRow bs G).size,(bytesRow bs G).size+1)),bt hrun,rfl,⟨rfl,rfl⟩,fun κ hκ=>?_,fun κ b hb=>?_⟩
    ·refine⟨_,e,_,dT,fun j hj=>⟨by rw[hrow];exact hj,by rw[hrow];simp only at hj ⊢;omega⟩,fun i v hiv=>?_,fun hw=>absurd hw (by omega)⟩
     have hiv:=Tr.dF hiv
     rw[mV] at hiv
     have hi:i<bs.size:=by
      have:=(List.getElem?_eq_some_iff.1 hiv).1
      simpa using this
     refine⟨by omega,by simp only;omega, .int .u8 (bs.data[i].toNat:Int),?_,?_⟩
     ·simp only[Nat.zero_add,bytesRow]
      rw[Array.getElem?_append_left (by simpa using hi)]
      simp[Array.getElem?_eq_getElem (show i<bs.data.size from hi)]
     ·have h1:(bs.data.toList.map fun b=>AV.int .u8 (b.toNat:Int))[i]? =some (.int .u8 (bs.data[i].toNat:Int)):=by
       simp[Array.getElem?_eq_getElem (show i<bs.data.size from hi)]
      rw[h1] at hiv
      cases hiv
      simp[VR]
    ·simp only[VR]
     exact⟨_,_,_,_,hb,by rw[hsz],fun _=>rfl,Nat.le_refl _,by omega,(fun e=>by cases e),by simp⟩
  ·cases h
 ·cases h
omit hX in
theorem pd (o:Option AV){v:AV}{s:St}:jA o≠some (.val v s):=by cases o<;>simp[jA]
omit hX in
theorem DG (o:Option AV){v:AV}{s:St}:tf o≠some (.val v s):=by cases o<;>simp[tf]
omit hX in
theorem Gq {ok:Bool}{u:AV}{b:Bool}{v:AV}{s:St}:oR ok u b≠some (.val v s):=by cases ok<;>simp[oR]
include hX in
theorem Fm {o:Oper}{fr:Fr}{v:AV}{s1:St}(h:fZ X o fr s=some (.val v s1))(hn:mC o=false):m8 o=true∧
  ∃ab f,(∀s',fZ X o fr s'=some (.val (f s'.nx) (s'.new ab).2))∧∀ι w (a:Act),(∀x∈o.op.operands,VR ι (fr.opd x) (a.eval x))→sn P ι w ((execOp a.eval o).run P w) ab f:=by
 unfold fZ at h
 split at h<;>rename_i ho
 case h_4=>
  obtain⟨ab,f,h1,h2⟩:=AL hX h
  exact⟨by simp[m8,ho],ab,f,fun s'=>by simp only[fZ,ho];exact h1 s',fun ι w a _=>by simp only[execOp,ho];exact h2 ι w⟩
 case h_5 t x=>
  obtain⟨ab,f,h1,h2⟩:=FG (P:=P) (t:=t) h
  exact⟨by simp[m8,ho],ab,f,fun s'=>by simp only[fZ,ho];exact h1 s',fun ι w a he=>by simp only[execOp,ho];exact h2 ι w _ (he _ (by simp[Op.operands,ho]))⟩
 case h_7 t n ps=>
  obtain⟨ab,f,h1,h2⟩:=z9 hX h
  exact⟨by simp[m8,ho],ab,f,fun s'=>by simp only[fZ,ho];exact h1 s',fun ι w a he=>by simp only[execOp,ho];exact h2 ι w a fun p hp=>he p.2 (by simp only[ho,Op.operands,List.mem_toArray,List.mem_map];exact⟨p,hp,rfl⟩)⟩
 case h_13 t u x=>
  unfold bH at h
  split at h
  ·cases h
  ·split at h<;>cases h
  ·cases h
  ·rename_i e v ha hb hv
   obtain⟨ab,f,h1,h2⟩:=xg (P:=P) hX ha hb h
   refine⟨by simp[m8,ho],ab,f,fun s'=>?_,fun ι w a he=>by simp only[execOp,ho];exact h2 ι w _ (by rw[←hv];exact he _ (by simp[Op.operands,ho]))⟩
   simp only[fZ,ho,bH,ha,hb,hv]
   exact h1 s'
  ·unfold pN at h
   split at h
   ·split at h
    ·split at h<;>cases h
    ·cases h
   ·cases h
  ·cases h
 case h_16 t=>
  exact⟨by simp[m8,ho], .map [],fun b=> .map (some b),fun s'=>by simp only[fZ,ho,nY];rfl,fun ι w a _=>by simp only[execOp,ho];exact AN ι w⟩
 case h_17 t l c=>
  obtain⟨ab,f,h1,h2⟩:=xG (P:=P) hX h
  exact⟨by simp[m8,ho],ab,f,fun s'=>by simp only[fZ,ho];exact h1 s',fun ι w a he=>by simp only[execOp,ho];exact h2 ι w _ _ (he _ (by simp[Op.operands,ho])) (he _ (by simp[Op.operands,ho]))⟩
 case h_28 c=>
  unfold pz at h
  split at h
  ·rename_i f hc
   simp[mC,ho,hc] at hn
  ·rename_i b hc
   unfold dX at h
   split at h
   ·split at h
    ·unfold uf at h
     split at h
     ·exact absurd h (pd _)
     ·cases h
    ·cases h
   ·split at h
    ·unfold uf at h
     split at h
     ·exact absurd h (pd _)
     ·cases h
    ·cases h
   ·simp[mC,ho,hc] at hn
   ·simp[mC,ho,hc] at hn
   ·exact absurd h (pd _)
   ·exact absurd h (pd _)
   ·simp[mC,ho,hc] at hn
   ·cases h
  ·rename_i rv name hc
   simp[mC,ho,hc] at hn
 all_goals first
  |(cases h;done)
  |(simp[mC,ho] at hn;done)
  |exact absurd h (pd _)
  |exact absurd h (DG _)
  |(exfalso;first
    |unfold qA at h
    |unfold bz cL wG fB at h
    |unfold uq at h
    |unfold iK at h
    |unfold af bh we at h
    |unfold sj at h
    |unfold fh tA z5 at h
    |unfold mL vp at h
    |unfold eN w6 at h
    |unfold lH at h
    repeat' split at h
    all_goals first
    |(cases h;done)
    |exact Gq h
    |exact DG _ h)
end
end Go.Am
end
