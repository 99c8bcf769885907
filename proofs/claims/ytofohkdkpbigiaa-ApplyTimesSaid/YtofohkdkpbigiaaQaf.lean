/-
  A part of the texts.
-/
import Derived.OrdersIn
import Derived.RangeFuncIn
import Derived.Test.YtofohkdkpbigiaaQae
section
namespace Go.Am
def sn (P:Program)(ι:Inj)(w:World)(res:Result Next)(ab:AB)(f:Nat→AV):Prop:=
 ∃o z cv w',res= .ok (.value cv) w'∧w'.heap=w.heap.push o∧Kin w w'∧(∀κ,ι.le κ→BR P κ w' w.heap.size (0,z) ab)∧∀κ b,κ b=some (w.heap.size,0,z)→VR κ (f b) cv
section
variable {P:Program}{X:Ctx}(hX:dC P X){ι:Inj}{s:St}{w:World}
theorem wb {P:Program}{cs:List AV}{cvs:Array Value}{w':World}{elem:TypeId}(hv:VRs ι cs (cvs.toList.take cs.length))
  {fz:Nat×Nat}(hfz:fz=(0,0)∨False)(hw:w'.heap=w.heap.push (.cells cvs elem fz))(κ:Inj)(hκ:ι.le κ):BR P κ w' w.heap.size (0,cvs.size) (.cells (Tr.of cs) cs.length):=by
 refine⟨cvs,elem,fz,by rw[hw];exact dM,fun j hj=>⟨hj,?_⟩,fun i v hi=>?_,fun _=>by rcases hfz with rfl|h'<;>simp_all⟩
 ·simp only at hj
  rcases hfz with rfl|h'
  ·simp
  ·exact h'.elim
 ·have hi:=Tr.df hi
  have hlt:i<cs.length:=by
   rcases Nat.lt_or_ge i cs.length with h'|h'
   ·exact h'
   ·rw[List.getElem?_eq_none h'] at hi;cases hi
  obtain⟨cv,h1,h2⟩:=hv.get hi
  rw[List.getElem?_take] at h1
  split at h1
  ·have h1:cvs[i]? =some cv:=by simpa using h1
   have hsz:i<cvs.size:=by
    rcases Nat.lt_or_ge i cvs.size with h'|h'
    ·exact h'
    ·rw[Array.getElem?_eq_none h'] at h1;cases h1
   exact⟨hlt,by simpa using hsz,cv,by simpa using h1,h2.mono hκ⟩
  ·exact absurd hlt (by assumption)
theorem VRs.vW {cs:List AV}{cvs:Array Value}(hv:VRs ι cs cvs.toList):VRs ι cs (cvs.toList.take cs.length):=by
 rw[hv.length,List.take_length];exact hv
theorem vc (s:St)(c:Tr AV)(n:Nat):s.jN c n=s.new (.cells c n):=by simp[St.jN]
theorem rP {cs:List AV}{r:OR}(h:dD cs s=some r):aX cs=true∧∀s',dD cs s'=some (.val (.ptr (some (s'.nx,0))) (s'.new (.cells (Tr.of cs) cs.length)).2):=by
 unfold dD at h ⊢
 split at h
 ·rename_i ho
  exact⟨ho,fun s'=>by simp only[vc];rfl⟩
 ·cases h
theorem ud {cs:List AV}{ccs:Array Value}{elem:TypeId}(hv:VRs ι cs ccs.toList){res:Result Next}(hr:res= .ok (.value (.pointer (some ⟨w.heap.size,0,none⟩))) {w with heap:=w.heap.push (.cells ccs elem)}):
  sn P ι w res (.cells (Tr.of cs) cs.length) fun b=> .ptr (some (b,0)):=
 ⟨_,ccs.size,_,_,hr,rfl,⟨rfl,rfl⟩,wb (elem:=elem) hv.vW (.inl rfl) rfl,fun κ b hb=>by simp only[VR];exact⟨_,_,hb,rfl⟩⟩
include hX in
theorem BH {t:TypeId}{r:OR}(h:iT X t s=some r):∃ab f,(∀s',iT X t s'=some (.val (f s'.nx) (s'.new ab).2))∧∀ι w,sn P ι w ((do pure (.value (←Instr.alloc t true (.tuple #[]))):Sem Next).run P w) ab f:=by
 unfold iT at h
 split at h
 ·rename_i z hz
  obtain⟨h1,h2⟩:=rP h
  refine⟨_,fun b=> .ptr (some (b,0)),fun s'=>by unfold iT;rw[hz];exact h2 s',fun ι w=>?_⟩
  obtain⟨cz,h3,rfl⟩:=fv hX hz w
  have hv:=(ju ι cz).cells (fE h1)
  exact ud (elem:=t) hv (by simp[Instr.alloc,h3,newVar,newRow])
 ·cases h
theorem E6 {t:TypeId}{x:AV}{r:OR}(h:dS x s=some r):∃ab f,(∀s',dS x s'=some (.val (f s'.nx) (s'.new ab).2))∧∀ι w cx,VR ι x cx→sn P ι w ((do pure (.value (←Instr.box t cx)):Sem Next).run P w) ab f:=by
 unfold dS at h
 split at h
 ·cases h
 ·rename_i hne
  obtain⟨h1,h2⟩:=rP h
  refine⟨.cells (Tr.of x.cells) x.cells.length,fun b=> .ptr (some (b,0)),fun s'=>?_,fun ι w cx hx=>?_⟩
  ·unfold dS
   split
   ·exact absurd rfl hne
   ·exact h2 s'
  have hv:=hx.cells (fE h1)
  exact ud (elem:=t) hv (by simp[Instr.box,newVar,newRow])
include hX in
theorem zb {t:TypeId}{len:Nat}{ps:Array (Nat×Operand)}{fr:Fr}{r:OR}(h:bh X t len (parts fr ps) s=some r):
  ∃ab f,(∀s',bh X t len (parts fr ps) s'=some (.val (f s'.nx) (s'.new ab).2))∧∀ι w (a:Act),(∀p∈ps.toList,VR ι (fr.opd p.2) (a.eval p.2))→sn P ι w ((do pure (.value (←Instr.buildSlice t len (ps.map fun(i,x)=>(i,a.eval x)))):Sem Next).run P w) ab f:=by
 have h0:=h
 unfold bh at h
 split at h
 ·rename_i elem hu
  split at h
  ·rename_i n z hn hz
   split at h
   ·rename_i hc
    have hcc:=hc
    simp only[Bool.and_eq_true] at hc
    have c1:=Nat.ble_eq.mp hc.1.1
    have c2:=Nat.beq_eq.mp hc.1.2
    have c3:=Nat.blt_eq.mp hc.2
    unfold dQ at h
    split at h
    ·rename_i cs hcs
     unfold eV at h
     split at h
     ·rename_i hone
      refine⟨.cells (Tr.of cs) cs.length,fun b=> .slc (some (b,0,n)) len len true,fun s'=>?_,fun ι w a hf=>?_⟩
      ·unfold bh dQ eV
       simp only[hu,hn,hz,hcc,hcs,hone,vc]
       rfl
      ·have hps:=qT (ι:=ι) ps hf
       obtain⟨cz,h1,rfl⟩:=fv hX hz w
       have hzc:VRs ι (ofV cz).cells cz.cells.toList:=by
        by_cases e:ofV cz= .top
        ·rw[e]
         cases cz<;>first
          |(simp[ofV,pk] at e;done)
          |exact VRs.one (by simp[VR])
          |skip
         all_goals exact VRs.one (by simp[VR])
        ·exact(ju ι cz).cells e
       have hsz:cz.cells.size=n:=by have:=hzc.length;simp at this;omega
       have hrep:=pe hzc len
       obtain⟨ccs',h2,h3⟩:=pG (cplace:=fun i=>some (i*n,n)) (fun i x hx=>hx) _ _ _ _ _ hcs hps hrep
       have hcl:=h3.length
       have hlen:cs.length=ccs'.size:=by simpa using hcl
       have hfl:cs.length=len*n:=by rw[nK _ _ _ hcs,fe,c2]
       refine⟨_,ccs'.size, .slice (some ⟨w.heap.size,0,none⟩) len len,{w with heap:=w.heap.push (.cells ccs' elem)},?_,rfl,⟨rfl,rfl⟩,wb (elem:=elem) h3.vW (.inl rfl) rfl,fun κ b hb=>?_⟩
       ·refine bp ?_
        have e1:¬(2^24<len*n):=by omega
        have e2:Instr.fill (fun i=>some (i*n,n)) ((Array.range (len*n)).map (fun i=>(if len*n=0 then(#[]:Array Value) else cz.cells)[i % (if len*n=0 then(#[]:Array Value) else cz.cells).size]!)) (ps.map fun(i,x)=>(i,a.eval x)).toList=some ccs':=by
         by_cases h0:len*n=0
         ·rw[←h2,hsz];simp only[h0,yT]
         ·simp only[h0,if_false];rw[←h2,hsz]
        simp only[Instr.buildSlice,Sem.run_bind,aL hX hu,Result.andThen_ok,cK hX hn,gt_iff_lt,e1,if_false,Sem.run_ite,Sem.run_pure,h1]
        by_cases h0:len*n=0
        ·simp only[h0,if_true] at e2 ⊢
         simp only[Result.andThen_ok,e2,Sem.run_bind,newRow,run_newObj,Result.andThen_ok,Sem.run_pure]
        ·simp only[h0,if_false] at e2 ⊢
         simp only[Result.andThen_ok,e2,Sem.run_bind,newRow,run_newObj,Result.andThen_ok,Sem.run_pure]
       ·simp only[VR]
        exact⟨_,_,_,_,hb,rfl,fun _=>rfl,Nat.le_refl _,Nat.le_refl _,fun _=>rfl,by simp[←hlen,←hfl]⟩
     ·cases h
    ·cases h
   ·cases h
  ·cases h
 ·cases h
theorem BY {t:TypeId}:∀ι w,sn P ι w ((do pure (.value (←Instr.makeMap t none)):Sem Next).run P w) (.map []) fun b=> .map (some b):=fun ι w=>
 ⟨.map #[] 0,0, .map (some w.heap.size),{w with heap:=w.heap.push (.map #[] 0)},bp (by simp[Instr.makeMap]),rfl,⟨rfl,rfl⟩,fun κ _=>⟨rfl, .nil, #[],0,dM,⟨[], .nil, .nil⟩,by simp,by simp⟩,fun κ b hb=>by simp only[VR];exact⟨_,_,hb,rfl⟩⟩
include hX in
theorem xi {t:TypeId}{l c:AV}{r:OR}(h:eu X t l c s=some r):
  ∃ab f,(∀s',eu X t l c s'=some (.val (f s'.nx) (s'.new ab).2))∧∀ι w cl cc,VR ι l cl→VR ι c cc→sn P ι w ((do pure (.value (←Instr.makeSlice t cl cc)):Sem Next).run P w) ab f:=by
 unfold eu at h
 split at h
 ·rename_i elem kl n kc m hu
  split at h
  ·rename_i k z hk hz
   unfold mX at h
   split at h
   ·rename_i hcond
    have hcc:=hcond
    simp only[Bool.and_eq_true] at hcond
    obtain⟨⟨c1,c2⟩,c4,c5⟩:=hcond
    have c1:=Nat.ble_eq.mp c1
    have c2:=Nat.ble_eq.mp c2
    have c5:=Nat.beq_eq.mp c5
    refine⟨.cells (Tr.of (kR z.cells m)) (m*k),fun b=> .slc (some (b,0,k)) n m true,fun s'=>?_,fun ι w cl cc hl hc=>?_⟩
    ·unfold eu mX
     simp only[hu,hk,hz,hcc,vc]
     rfl
    ·have el:=hl.int;have ec:=hc.int
     subst el;subst ec
     obtain⟨cz,h1,rfl⟩:=fv hX hz w
     have hzc:=(ju ι cz).cells (fE c4)
     obtain⟨i,hi,hik,hbytes,hk1⟩:=lv hk
     have hk:=m6 hk
     have hsz:cz.cells.size=k:=by have:=hzc.length;simp at this;omega
     have hrep:=pe hzc m
     have hrl:(kR (ofV cz).cells m).length=m*k:=by rw[fe,c5]
     have hb:(i.bytes:Int)*(m:Int)≤2^48:=by
      have h1:i.bytes*m≤1048576*100000:=Nat.mul_le_mul hbytes c2
      have h2:((i.bytes*m:Nat):Int)≤((1048576*100000:Nat):Int):=by exact_mod_cast h1
      rw[Int.natCast_mul] at h2
      omega
     have hwn:IntKind.i64.wrap (Int.ofNat n)=n:=by
      have:fits .i64 (.ofNat n)=true:=by simp[fits,Nat.blt_eq];omega
      exact iu this
     have hwm:IntKind.i64.wrap (Int.ofNat m)=m:=by
      have:fits .i64 (.ofNat m)=true:=by simp[fits,Nat.blt_eq];omega
      exact iu this
     have hbr:=wb (P:=P) (w:=w) (w':={w with heap:=w.heap.push (.cells ((Array.range (m*cz.cells.size)).map (fun i=>cz.cells[i % cz.cells.size]!)) elem)}) (elem:=elem) (fz:=(0,0)) hrep.vW (.inl rfl) rfl
     rw[hrl] at hbr
     refine⟨.cells ((Array.range (m*cz.cells.size)).map (fun i=>cz.cells[i % cz.cells.size]!)) elem,_, .slice (some ⟨w.heap.size,0,none⟩) n m,{w with heap:=w.heap.push (.cells ((Array.range (m*cz.cells.size)).map (fun i=>cz.cells[i % cz.cells.size]!)) elem)},bp ?_,rfl,⟨rfl,rfl⟩,hbr,fun κ b hb=>?_⟩
     ·have e1:(Int.ofNat m<0)=False:=by simp
      have e2:¬((i.bytes:Int)*(m:Int)>2^48):=by omega
      have e3:¬((n:Int)>(m:Int)):=by omega
      simp only[Instr.makeSlice,Sem.run_bind,aL hX hu,Result.andThen_ok,asInt,asIntOf,Sem.run_pure,run_typeInfo hX hi,hwn,hwm]
      have e4:(decide ((m:Int)<0)||decide ((i.bytes:Int)*(m:Int)>2^48)||decide ((n:Int)<0)||decide ((n:Int)>(m:Int)))=false:=by
       simp only[Bool.or_eq_false_iff,decide_eq_false_iff_not]
       exact⟨⟨⟨by omega,e2⟩,by omega⟩,e3⟩
      simp only[e4,Bool.false_eq_true,if_false,Sem.run_bind,Sem.run_pure,Result.andThen_ok,run_askRoom,cK hX hk,Int.toNat_natCast,Sem.run_ite,h1,←hsz]
      by_cases h0:m*cz.cells.size=0
      ·simp only[h0,if_true,Result.andThen_ok,newRow,Sem.run_bind,run_newObj,Sem.run_pure,yT]
      ·simp only[h0,if_false,Result.andThen_ok,newRow,Sem.run_bind,run_newObj,Sem.run_pure]
     ·simp only[VR]
      exact⟨_,_,_,_,hb,rfl,fun _=>rfl,c1,Nat.le_refl _,fun _=>rfl,by simp[hsz]⟩
   ·cases h
  ·cases h
 ·cases h
include hX in
theorem xn {a b e:TypeId}{v:Str}{r:OR}(ha:X.und a=some .string)(hb:X.und b=some (.slice e))(h:iG X e v s=some r):
  ∃ab f,(∀s',iG X e v s'=some (.val (f s'.nx) (s'.new ab).2))∧∀ι w cx,VR ι (.str v) cx→sn P ι w ((do pure (.value (←convert a b cx)):Sem Next).run P w) ab f:=by
 unfold iG at h
 split at h
 ·rename_i he
  split at h
  ·rename_i hlen
   refine⟨.cells (Tr.of (fM v v.len)) (v.len+jK),fun b=> .slc (some (b,0,1)) v.len v.len false,fun s'=>?_,fun ι w cx hx=>?_⟩
   ·unfold iG
    simp only[he,hlen,vc]
    rfl
   ·obtain⟨bs,rfl,rfl⟩:=hx.str
    have hrun:=run_bytes_of_string (P:=P) w a b e bs (fy hX ha) (fy hX hb) (fy hX he)
    have hge:=grownCap_ge w bs.size 0 e
    have hsz:bs.size=(Str.of bs).len:=by simp[Str.of]
    have hl:bs.data.toList.length=bs.size:=by simp only[ByteArray.size,Array.length_toList]
    generalize grownCap w bs.size 0 e=G at hrun hge
    have hrow:(bytesRow bs G).size=G:=by simp[bytesRow];omega
    refine⟨_,G,_,w.drew.alloc (.cells (bytesRow bs G) e ((bytesRow bs G).size,(bytesRow bs G).size+1)),bp hrun,rfl,⟨rfl,rfl⟩,fun κ hκ=>?_,fun κ b hb=>?_⟩
    ·refine⟨_,e,_,dM,fun j hj=>⟨by rw[hrow];exact hj,by rw[hrow];simp only at hj ⊢;omega⟩,fun i v hiv=>?_,fun hw=>absurd hw (by omega)⟩
     have hiv:=Tr.df hiv
     rw[mH] at hiv
     have hi:i<bs.size:=by
      have:=(List.getElem?_eq_some_iff.1 hiv).1
      simpa using this
     refine⟨by omega,by simp only;omega, .int .u8 (bs.data[i].toNat:Int),?_,?_⟩
     ·simp only[Nat.zero_add,bytesRow]
      rw[Array.getElem?_append_left (by simpa using hi)]
      simp[Array.getElem?_eq_getElem (show i<bs.data.size from hi)]
     ·have h1:(bs.data.toList.map fun b=>AV.int .u8 (b.toNat:Int))[i]? =some (.int .u8 (bs.data[i].toNat:Int)):=by
       simp[Array.getElem?_eq_getElem (show i<bs.data.size from hi)]
      rw[h1] at hiv
      cases hiv
      simp[VR]
    ·simp only[VR]
     exact⟨_,_,_,_,hb,by rw[hsz],fun _=>rfl,Nat.le_refl _,by omega,(fun e=>by cases e),by simp⟩
  ·cases h
 ·cases h
omit hX in
theorem oR (o:Option AV){v:AV}{s:St}:jf o≠some (.val v s):=by cases o<;>simp[jf]
omit hX in
theorem DB (o:Option AV){v:AV}{s:St}:sT o≠some (.val v s):=by cases o<;>simp[sT]
omit hX in
theorem Gl {ok:Bool}{u:AV}{b:Bool}{v:AV}{s:St}:oM ok u b≠some (.val v s):=by cases ok<;>simp[oM]
include hX in
theorem Fx {o:Oper}{fr:Fr}{v:AV}{s1:St}(h:fQ X o fr s=some (.val v s1))(hn:mi o=false):mP o=true∧
  ∃ab f,(∀s',fQ X o fr s'=some (.val (f s'.nx) (s'.new ab).2))∧∀ι w (a:Act),(∀x∈o.op.operands,VR ι (fr.opd x) (a.eval x))→sn P ι w ((execOp a.eval o).run P w) ab f:=by
 unfold fQ at h
 split at h<;>rename_i ho
 case h_4=>
  obtain⟨ab,f,h1,h2⟩:=BH hX h
  exact⟨by simp[mP,ho],ab,f,fun s'=>by simp only[fQ,ho];exact h1 s',fun ι w a _=>by simp only[execOp,ho];exact h2 ι w⟩
 case h_5 t x=>
  obtain⟨ab,f,h1,h2⟩:=E6 (P:=P) (t:=t) h
  exact⟨by simp[mP,ho],ab,f,fun s'=>by simp only[fQ,ho];exact h1 s',fun ι w a he=>by simp only[execOp,ho];exact h2 ι w _ (he _ (by simp[Op.operands,ho]))⟩
 case h_7 t n ps=>
  obtain⟨ab,f,h1,h2⟩:=zb hX h
  exact⟨by simp[mP,ho],ab,f,fun s'=>by simp only[fQ,ho];exact h1 s',fun ι w a he=>by simp only[execOp,ho];exact h2 ι w a fun p hp=>he p.2 (by simp only[ho,Op.operands,List.mem_toArray,List.mem_map];exact⟨p,hp,rfl⟩)⟩
 case h_13 t u x=>
  unfold bG at h
  split at h
  ·cases h
  ·split at h<;>cases h
  ·cases h
  ·rename_i e v ha hb hv
   obtain⟨ab,f,h1,h2⟩:=xn (P:=P) hX ha hb h
   refine⟨by simp[mP,ho],ab,f,fun s'=>?_,fun ι w a he=>by simp only[execOp,ho];exact h2 ι w _ (by rw[←hv];exact he _ (by simp[Op.operands,ho]))⟩
   simp only[fQ,ho,bG,ha,hb,hv]
   exact h1 s'
  ·unfold pK at h
   split at h
   ·split at h
    ·split at h<;>cases h
    ·cases h
   ·cases h
  ·cases h
 case h_16 t=>
  exact⟨by simp[mP,ho], .map [],fun b=> .map (some b),fun s'=>by simp only[fQ,ho,nI];rfl,fun ι w a _=>by simp only[execOp,ho];exact BY ι w⟩
 case h_17 t l c=>
  obtain⟨ab,f,h1,h2⟩:=xi (P:=P) hX h
  exact⟨by simp[mP,ho],ab,f,fun s'=>by simp only[fQ,ho];exact h1 s',fun ι w a he=>by simp only[execOp,ho];exact h2 ι w _ _ (he _ (by simp[Op.operands,ho])) (he _ (by simp[Op.operands,ho]))⟩
 case h_28 c=>
  unfold px at h
  split at h
  ·rename_i f hc
   simp[mi,ho,hc] at hn
  ·rename_i b hc
   unfold dP at h
   split at h
   ·split at h
    ·unfold tY at h
     split at h
     ·exact absurd h (oR _)
     ·cases h
    ·cases h
   ·split at h
    ·unfold tY at h
     split at h
     ·exact absurd h (oR _)
     ·cases h
    ·cases h
   ·simp[mi,ho,hc] at hn
   ·simp[mi,ho,hc] at hn
   ·exact absurd h (oR _)
   ·exact absurd h (oR _)
   ·simp[mi,ho,hc] at hn
   ·cases h
  ·rename_i rv name hc
   simp[mi,ho,hc] at hn
 all_goals first
  |(cases h;done)
  |(simp[mi,ho] at hn;done)
  |exact absurd h (oR _)
  |exact absurd h (DB _)
  |(exfalso;first
    |unfold qo at h
    |unfold bf bZ vZ eL at h
    |unfold tJ at h
    |unfold iz at h
    |unfold ah bj vO at h
    |unfold sd at h
    |unfold fc te zE at h
    |unfold mu wV at h
    |unfold eC vq at h
    |unfold lr at h
    repeat' split at h
    all_goals first
    |(cases h;done)
    |exact Gl h
    |exact DB _ h)
end
end Go.Am
end
section
namespace Go.Am
section
variable {P:Program}{X:Ctx}(hX:dC P X){ι:Inj}{s:St}{w:World}
include hX in
theorem B8 {t ty:TypeId}{x v:AV}{cx:Value}(h:oJ X t x s=some v)(hH:HR P ι s w)(hx:VR ι x cx):∃cv,(Builtin.len_ #[t] ty #[cx]).run P w= .ok cv w∧VR ι v cv:=by
 unfold oJ at h
 split at h
 ·rename_i a hu
  cases h
  obtain⟨bs,rfl,rfl⟩:=hx.str
  exact⟨.int .i64 bs.size,by simp[Builtin.len_,aL hX hu,goInt],by simp[VR,Str.of]⟩
 ·rename_i n e hu
  cases h
  exact⟨.int .i64 n,by simp[Builtin.len_,aL hX hu,goInt],by simp[VR]⟩
 ·rename_i e a n c x hu
  cases h
  obtain⟨p,ccap,rfl,_⟩:=ib hx
  exact⟨.int .i64 n,by simp[Builtin.len_,aL hX hu,goInt],by simp[VR]⟩
 ·rename_i a b hu
  cases h
  simp only[VR] at hx
  subst hx
  exact⟨.int .i64 0,by simp[Builtin.len_,aL hX hu,goInt],by simp[VR]⟩
 ·rename_i a b r hu
  split at h
  ·rename_i es hg
   cases h
   rcases yy (x:= .map (some r)) (es:=es) (by simp[mapOf,hg]) hH hx with⟨rfl,rfl⟩|⟨r',cb,h1,rfl,h2,h3,h4,l,clock,h5,⟨l',hp,hr⟩,h6⟩
   ·exact⟨.int .i64 0,by simp[Builtin.len_,aL hX hu,goInt],by simp[VR]⟩
   ·have hl:es.length=l.size:=by rw[hr.length,hp.length_eq,Array.length_toList]
    refine⟨.int .i64 l.size,?_,by simp[VR,hl]⟩
    have hg':(getObj cb).run P w= .ok (.map l clock) w:=by simp[getObj,Sem.run,h5]
    simp[Builtin.len_,aL hX hu,goInt,hg']
  ·cases h
 ·cases h
include hX in
theorem Cd {t ty:TypeId}{x v:AV}{cx:Value}(h:Bh X t x=some v)(hx:VR ι x cx):∃cv,(Builtin.cap_ #[t] ty #[cx]).run P w= .ok cv w∧VR ι v cv:=by
 unfold Bh at h
 split at h
 ·rename_i a n c
  split at h
  ·rename_i e hu
   cases h
   obtain⟨p,ccap,rfl,_,_,h1,_⟩:=ib hx
   have:=h1 rfl
   subst this
   exact⟨.int .i64 ccap,by simp[Builtin.cap_,aL hX hu,goInt],by simp[VR]⟩
  ·cases h
 ·cases h
theorem D9:∀ (l:List AV) (cl:List Value) (k:IntKind) (x:Int) (v:AV),EY.go k x l=some v→VRs ι l cl→∃cv,(cl.foldlM Builtin.max2 (.int k x)).run P w= .ok cv w∧VR ι v cv
 |[],cl,k,x,v,h,hl=>by
  cases cl with
  |nil=>cases h;exact⟨.int k x,by simp,by simp[VR]⟩
  |cons _ _=>simp[VRs] at hl
 |y::l,cl,k,x,v,h,hl=>by
  cases cl with
  |nil=>simp[VRs] at hl
  |cons cy cl=>
   simp only[VRs] at hl
   unfold EY.go at h
   split at h
   ·rename_i e;cases e
   ·rename_i j n l' e
    cases e
    have:=hl.1.int
    subst this
    obtain⟨cv,h1,h2⟩:=D9 l cl k _ v h hl.2
    refine⟨cv,?_,h2⟩
    simpa[List.foldlM_cons,Builtin.max2] using h1
   ·cases h
theorem Dv:∀ (l:List AV) (cl:List Value) (k:IntKind) (x:Int) (v:AV),F7.go k x l=some v→VRs ι l cl→∃cv,(cl.foldlM Builtin.min2 (.int k x)).run P w= .ok cv w∧VR ι v cv
 |[],cl,k,x,v,h,hl=>by
  cases cl with
  |nil=>cases h;exact⟨.int k x,by simp,by simp[VR]⟩
  |cons _ _=>simp[VRs] at hl
 |y::l,cl,k,x,v,h,hl=>by
  cases cl with
  |nil=>simp[VRs] at hl
  |cons cy cl=>
   simp only[VRs] at hl
   unfold F7.go at h
   split at h
   ·rename_i e;cases e
   ·rename_i j n l' e
    cases e
    have:=hl.1.int
    subst this
    obtain⟨cv,h1,h2⟩:=Dv l cl k _ v h hl.2
    refine⟨cv,?_,h2⟩
    simpa[List.foldlM_cons,Builtin.min2] using h1
   ·cases h
theorem EH {l:List AV}{cl:Array Value}{ts:Array TypeId}{ty:TypeId}{v:AV}(h:EY l=some v)(hl:VRs ι l cl.toList):∃cv,(Builtin.max_ ts ty cl).run P w= .ok cv w∧VR ι v cv:=by
 unfold EY at h
 split at h
 ·cases h
 ·rename_i k x rest
  obtain⟨cl⟩:=cl
  cases cl with
  |nil=>simp[VRs] at hl
  |cons cx cl=>
   simp only[VRs] at hl
   have:=hl.1.int
   subst this
   simpa[Builtin.max_] using D9 (P:=P) (w:=w) rest cl k x v h hl.2
 ·cases h
theorem FW {l:List AV}{cl:Array Value}{ts:Array TypeId}{ty:TypeId}{v:AV}(h:F7 l=some v)(hl:VRs ι l cl.toList):∃cv,(Builtin.min_ ts ty cl).run P w= .ok cv w∧VR ι v cv:=by
 unfold F7 at h
 split at h
 ·cases h
 ·rename_i k x rest
  obtain⟨cl⟩:=cl
  cases cl with
  |nil=>simp[VRs] at hl
  |cons cx cl=>
   simp only[VRs] at hl
   have:=hl.1.int
   subst this
   simpa[Builtin.min_] using Dv (P:=P) (w:=w) rest cl k x v h hl.2
 ·cases h
theorem wz {f:AV→Option OR}{l:List AV}{r:OR}{cl:Array Value}(h:tY f l=some r)(hl:VRs ι l cl.toList):∃x cx,f x=some r∧VR ι x cx∧cl= #[cx]:=by
 unfold tY at h
 split at h
 ·rename_i x
  obtain⟨cl⟩:=cl
  match cl,hl with
  |[cx],hl=>exact⟨x,cx,h,by simpa[VRs] using hl,rfl⟩
  |[],hl=>simp[VRs] at hl
  | _::_::_,hl=>simp[VRs] at hl
 ·cases h
theorem qA {f:AV→AV→Option OR}{l:List AV}{r:OR}{cl:Array Value}(h:yG f l=some r)(hl:VRs ι l cl.toList):∃x y cx cy,f x y=some r∧VR ι x cx∧VR ι y cy∧cl= #[cx,cy]:=by
 unfold yG at h
 split at h
 ·rename_i x y
  obtain⟨cl⟩:=cl
  match cl,hl with
  |[cx,cy],hl=>simp only[VRs,and_true] at hl;exact⟨x,y,cx,cy,h,hl.1,hl.2,rfl⟩
  |[],hl=>simp[VRs] at hl
  |[_],hl=>simp[VRs] at hl
  | _::_::_::_,hl=>simp[VRs] at hl
 ·cases h
include hX in
theorem uj {b:Builtin}{ts:Array TypeId}{ty:TypeId}{cs:Array Bool}{args:List AV}{cargs:Array Value}{r:OR}(h:dP X b ts.toList args s=some r)(hH:HR P ι s w)(ha:VRs ι args cargs.toList):
  iJ P ι s w r ((builtin b ts ty cs cargs).run P w):=by
 obtain⟨ts⟩:=ts
 unfold dP at h
 split at h
 ·split at h
  ·rename_i t e
   simp only at e
   subst e
   obtain⟨x,cx,h1,h2,rfl⟩:=wz h ha
   exact fZ h1 fun v hv=>B8 hX hv hH h2
  ·cases h
 ·split at h
  ·rename_i t e
   simp only at e
   subst e
   obtain⟨x,cx,h1,h2,rfl⟩:=wz h ha
   exact fZ h1 fun v hv=>Cd hX hv h2
  ·cases h
 ·split at h
  ·rename_i t u rest e
   simp only at e
   subst e
   obtain⟨x,y,cx,cy,h1,h2,h3,rfl⟩:=qA h ha
   unfold jO at h1
   split at h1
   ·rename_i e he
    exact oV hX h1 (fun d hd k=>by rw[he] at hd;cases hd;simp) ⟨_,he⟩ hH h2 h3
   ·rename_i he
    exact oV hX h1 (fun d hd k=>by rw[he] at hd;cases hd;simp) ⟨_,he⟩ hH h2 h3
   ·rename_i k he
    exact xe hX h1 he hH h2 h3
   ·cases h1
  ·cases h
 ·split at h
  ·rename_i t rest e
   simp only at e
   subst e
   obtain⟨x,y,cx,cy,h1,h2,h3,rfl⟩:=qA h ha
   exact Aa hX h1 hH h2 h3
  ·cases h
 ·exact fZ h fun v hv=>EH hv ha
 ·exact fZ h fun v hv=>FW hv ha
 ·split at h
  ·rename_i t rest e
   simp only at e
   subst e
   obtain⟨x,y,cx,cy,h1,h2,h3,rfl⟩:=qA h ha
   exact AQ hX h1 rfl hH h2 h3
  ·cases h
 ·cases h
theorem Bc {fr:Fr}{a:Act}(xs:Array Operand)(hf:∀x∈xs,VR ι (fr.opd x) (a.eval x)):VRs ι (xs.toList.map fr.opd) (xs.map a.eval).toList:=by
 simp only[Array.toList_map]
 have hf:∀x∈xs.toList,VR ι (fr.opd x) (a.eval x):=fun x hx=>hf x (by simpa using hx)
 revert hf
 induction xs.toList with
 |nil=>simp[VRs]
 |cons x l ih=>intro hf;simp only[List.map_cons,VRs];exact⟨hf x (by simp),ih fun y hy=>hf y (by simp[hy])⟩
include hX in
theorem pn {x:AV}{cx:Value}{name:String}{args:List AV}{cargs:Array Value}{r:OR}(h:rO X x name args=some r)(hx:VR ι x cx)(ha:VRs ι args cargs.toList):
  ∃g args',r= .call g args'∧(∃t cv,cx= .iface t cv∧∀n,(method (n+1) t cv name).run P w= .ok (g,cv) w)∧∃cargs',(callMethod cx name cargs).run P w=(callFunc g cargs').run P w∧VRs ι args' cargs'.toList:=by
 unfold rO at h
 split at h
 ·rename_i t v
  split at h
  ·rename_i i hi
   unfold Mb at h
   split at h
   ·rename_i m hm
    split at h
    ·rename_i d hp hu
     unfold Ma at h
     split at h
     ·rename_i f b hf
      split at h
      ·rename_i hb
       cases h
       have hb:b=CB d:=by simpa using hb
       simp only[VR] at hx
       obtain⟨cv,rfl,hv⟩:=hx
       have hmeth:∀n,(method (n+1) t cv name).run P w= .ok (f,cv) w:=fun n=>by
        have hm':i.methods.find? (fun m=>m.name==name)=some m:=by
         rw[←Array.find?_toList];exact hm
        unfold method
        simp only[Sem.run_bind,run_typeInfo hX hi,Result.andThen_ok,hm',hp,follow,Sem.run_pure,hf]
        unfold receiverAt
        simp only[Sem.run_bind,aL hX hu,Result.andThen_ok]
        subst hb
        cases d<;>simp[CB,Place.get]
       refine⟨f,_,rfl,⟨t,cv,rfl,hmeth⟩, #[cv]++cargs,?_,by simpa[VRs] using⟨hv,ha⟩⟩
       have hd:P.types.size+Made.depth=(P.types.size+Made.depth- 1)+1:=by
        have:0<Made.depth:=by decide
        omega
       unfold callMethod
       simp only[Sem.run_bind,run_program,Result.andThen_ok]
       rw[hd,hmeth]
       simp
      ·cases h
     ·cases h
    ·cases h
   ·cases h
  ·cases h
 ·cases h
include hX in
theorem dc {o:Oper}{fr:Fr}{a:Act}{r:OR}(h:fQ X o fr s=some r)(hH:HR P ι s w)(he:∀x∈o.op.operands,VR ι (fr.opd x) (a.eval x)):
  iJ P ι s w r ((execOp a.eval o).run P w):=by
 unfold fQ at h
 split at h
 ·rename_i x ho;cases h;exact⟨_,by simp[execOp,ho],he x (by simp[Op.operands,ho])⟩
 ·rename_i x ho;cases h;exact⟨_,by simp[execOp,ho],he x (by simp[Op.operands,ho])⟩
 ·rename_i c x y ho;simp only[execOp,ho];exact zw h (he c (by simp[Op.operands,ho])) (he x (by simp[Op.operands,ho])) (he y (by simp[Op.operands,ho]))
 ·rename_i t ho;simp only[execOp,ho];exact xc hX h hH
 ·rename_i t x ho;simp only[execOp,ho];exact AA h hH (he x (by simp[Op.operands,ho]))
 ·rename_i t ps ho;simp only[execOp,ho];exact xG hX h fun p hp=>he p.2 (by simp only[ho,Op.operands,List.mem_toArray,List.mem_map];exact⟨p,hp,rfl⟩)
 ·rename_i t n ps ho;simp only[execOp,ho];exact wU hX h hH fun p hp=>he p.2 (by simp only[ho,Op.operands,List.mem_toArray,List.mem_map];exact⟨p,hp,rfl⟩)
 ·rename_i t x ho;simp only[execOp,ho];exact od h fun v hv=>uf hX hH hv (he x (by simp[Op.operands,ho]))
 ·rename_i t x y ho;simp only[execOp,ho]
  unfold cF at h
  split at h
  ·rename_i s' hs
   cases h
   obtain⟨w',h1,h2,h3⟩:=z8 hX hH hs (he x (by simp[Op.operands,ho])) (he y (by simp[Op.operands,ho]))
   exact⟨_,w',undef, .inr ⟨Bi h1,rfl⟩,by simp[undef,VR,VRs],h2,h3⟩
  ·cases h
 ·rename_i x ho;exact BX h (he x (by simp[Op.operands,ho])) rfl ho
 ·rename_i op t x y c ho;simp only[execOp,ho];exact fZ h fun v hv=>AI hX hv (he x (by simp[Op.operands,ho])) (he y (by simp[Op.operands,ho]))
 ·rename_i op t x ho;simp only[execOp,ho];exact fZ h fun v hv=>FV hv (he x (by simp[Op.operands,ho]))
 ·rename_i t u x ho;simp only[execOp,ho];exact uo hX h hH (he x (by simp[Op.operands,ho]))
 ·rename_i t x ho;simp only[execOp,ho];exact um hX h (he x (by simp[Op.operands,ho]))
 ·rename_i f x y ho;simp only[execOp,ho];cases h
  exact⟨.func f (x.map a.eval) (y.map a.eval),bp (by simp[Instr.makeFunc]),by simp only[VR];exact⟨_,_,rfl,Bc x fun y hy=>he y (by simp[Op.operands,ho,hy]),Bc y fun z hz=>he z (by simp[Op.operands,ho,hz])⟩⟩
 ·rename_i t ho;simp only[execOp,ho];exact xB h hH
 ·rename_i t l c ho;simp only[execOp,ho];exact uy hX h hH (he l (by simp[Op.operands,ho])) (he c (by simp[Op.operands,ho]))
 ·rename_i t x lo hi mx ho;simp only[execOp,ho];exact fZ h fun v hv=>vV hX hv hH (he x (by simp[Op.operands,ho])) (VRo.of_map _ fun y hy=>he y (by simp[Op.operands,ho,hy])) (VRo.of_map _ fun y hy=>he y (by simp[Op.operands,ho,hy])) (VRo.of_map _ fun y hy=>he y (by simp[Op.operands,ho,hy]))
 ·rename_i t x i ho;simp only[execOp,ho];exact so hX h (he x (by simp[Op.operands,ho]))
 ·rename_i t x i ho;simp only[execOp,ho];exact xD hX h (he x (by simp[Op.operands,ho]))
 ·rename_i t x i ho;simp only[execOp,ho];exact si hX h (he x (by simp[Op.operands,ho])) (he i (by simp[Op.operands,ho]))
 ·rename_i t x i ho;simp only[execOp,ho];exact xI hX h (he x (by simp[Op.operands,ho])) (he i (by simp[Op.operands,ho]))
 ·rename_i t x k ok ho;simp only[execOp,ho];exact wM hX h hH (he x (by simp[Op.operands,ho])) (he k (by simp[Op.operands,ho]))
 ·rename_i t m k x ho;simp only[execOp,ho];exact o0 hX h hH (he m (by simp[Op.operands,ho])) (he k (by simp[Op.operands,ho])) (he x (by simp[Op.operands,ho]))
 ·rename_i t m k x ho;simp only[execOp,ho];exact o0 hX h hH (he m (by simp[Op.operands,ho])) (he k (by simp[Op.operands,ho])) (he x (by simp[Op.operands,ho]))
 ·rename_i x i ho;simp only[execOp,ho];exact uw h (he x (by simp[Op.operands,ho]))
 ·rename_i x t u ok ho;simp only[execOp,ho];exact vF hX h (he x (by simp[Op.operands,ho]))
 ·rename_i c ho;simp only[execOp,ho]
  unfold px at h
  split at h
  ·rename_i f hc
   unfold tm at h
   split at h
   ·rename_i g first cap hv
    cases h
    have hfv:=he f (by simp[Op.operands,Call.operands,ho,hc])
    rw[hv] at hfv
    simp only[VR] at hfv
    obtain⟨x,y,h1,h2,h3⟩:=hfv
    refine⟨x++c.args.map a.eval++y,by simp[resolve,hc,h1,Deferred.ofValue,invoke],?_⟩
    simpa using(h2.append (Bc c.args fun y hy=>he y (by simp[Op.operands,Call.operands,ho,hc,hy]))).append h3
   ·rename_i b hv
    cases h
    have hfv:=he f (by simp[Op.operands,Call.operands,ho,hc])
    rw[hv] at hfv
    simp only[VR] at hfv
    obtain⟨cb,d,h1,h2⟩:=hfv
    exact⟨cb,d,c.args.map a.eval,h1,by simp[resolve,hc,h2,Deferred.ofValue,invoke],Bc c.args fun y hy=>he y (by simp[Op.operands,Call.operands,ho,hc,hy])⟩
   ·cases h
  ·rename_i b hc
   simp only[resolve,hc,Sem.run_bind,Sem.run_pure,Result.andThen_ok,invoke]
   exact uj hX h hH (Bc c.args fun y hy=>he y (by simp[Op.operands,Call.operands,ho,hc,hy]))
  ·rename_i rv name hc
   obtain⟨g,args',rfl,_,cargs',h1,h2⟩:=pn hX (w:=w) h (he rv (by simp[Op.operands,Call.operands,ho,hc])) (Bc c.args fun y hy=>he y (by simp[Op.operands,Call.operands,ho,hc,hy]))
   refine⟨cargs',?_,h2⟩
   rw[←h1]
   have e0:(#[a.eval rv]++Array.map a.eval c.args)[0]? =some (a.eval rv):=by rw[Array.getElem?_append_left (by simp)];rfl
   have e1:(#[a.eval rv]++Array.map a.eval c.args).extract 1 (#[a.eval rv]++Array.map a.eval c.args).size=Array.map a.eval c.args:=by
    apply Array.ext'
    simp
    rw[List.take_of_length_le (by simp)]
   simp only[resolve,hc,invoke,Sem.run_bind,Sem.run_pure,Result.andThen_ok,e0,e1]
 ·rename_i c ho;simp only[execOp,ho]
  unfold Ic at h
  split at h
  ·rename_i f hc
   unfold uC at h
   split at h
   ·rename_i g first cap hv
    cases h
    have hfv:=he f (by simp[Op.operands,Call.operands,ho,hc])
    rw[hv] at hfv
    simp only[VR] at hfv
    obtain⟨x,y,h1,h2,h3⟩:=hfv
    refine⟨⟨.fn (.func g) y,x++c.args.map a.eval⟩,y,by simp[resolve,hc,h1,Deferred.ofValue],rfl,?_⟩
    simpa using(h2.append (Bc c.args fun y hy=>he y (by simp[Op.operands,Call.operands,ho,hc,hy]))).append h3
   ·cases h
  ·cases h
 ·rename_i x ho;simp only[execOp,ho]
  unfold uN at h
  split at h
  ·rename_i t v hv
   cases h
   have hfv:=he x (by simp[Op.operands,ho])
   rw[hv] at hfv
   have hfv0:=hfv
   simp only[VR] at hfv
   obtain⟨u,h1,h2⟩:=hfv
   rw[h1] at hfv0
   exact⟨_,by simp[h1,Instr.panic],hfv0⟩
  ·cases h
 ·cases h
end
end Go.Am
end
section
namespace Go.Am
structure FRN (N:Nat)(H:Nat→Prop)(ι:Inj)(fr:Fr)(a:Act):Prop where
 t:∀k v,¬H k→fr.t.get k=some v→∃cv,a.tmps[k]? =some cv∧VR ι v cv
 d:DRs ι fr.d a.defers
 n:N≤a.tmps.size
abbrev mh:Nat→Prop:=fun _=>False
section
variable {N:Nat}{H:Nat→Prop}{ι κ:Inj}{fr:Fr}{a:Act}
theorem FRN.mono (h:ι.le κ)(hf:FRN N H ι fr a):FRN N H κ fr a:=
 ⟨fun k v hk hv=>let⟨cv,h1,h2⟩:=hf.t k v hk hv;⟨cv,h1,h2.mono h⟩,hf.d.mono h,hf.n⟩
theorem FRN.opd (hf:FRN N H ι fr a)(x:Operand)(hx:∀t,x= .tmp t→¬H t):VR ι (fr.opd x) (a.eval x):=by
 cases x with
 |tmp t=>
  simp only[Fr.opd]
  split
  ·rename_i v hv
   obtain⟨cv,h1,h2⟩:=hf.t t v (hx t rfl) hv
   simpa[Act.eval,h1] using h2
  ·simp[VR]
 |const v=>exact ju ι v
 |global g=>simp[Fr.opd,VR,Act.eval]
 |func f=>simp only[Fr.opd,Act.eval,VR];exact⟨#[], #[],rfl,by simp[VRs],by simp[VRs]⟩
theorem oW (a:Act)(d:Nat)(v:Value):a.put (some d) v={a with tmps:=a.tmps.setIfInBounds d v}:=rfl
theorem FRN.put (hf:FRN N H ι fr a){v:AV}{cv:Value}(hv:VR ι v cv){d:Nat}(hd:d<N):FRN N H ι ⟨fr.t.put d v,fr.d⟩ (a.put (some d) cv):=by
 refine⟨fun k u hk hu=>?_,hf.d,by simpa[oW] using hf.n⟩
 rw[oW]
 rcases Tr.dB hu with⟨rfl,rfl⟩|⟨hne,hu⟩
 ·exact⟨cv,by simp only;rw[Array.getElem?_setIfInBounds_self_of_lt (Nat.lt_of_lt_of_le hd hf.n)],hv⟩
 ·obtain⟨c,h1,h2⟩:=hf.t k u hk hu
  exact⟨c,by simp only;rw[Array.getElem?_setIfInBounds_ne (Ne.symm hne)];exact h1,h2⟩
theorem mc {n:Nat}{o:Oper}{d:Nat}(h:mj n o=true)(hd:o.dst=some d):d<n:=by
 simp only[mj,hd] at h
 simpa[Nat.blt_eq] using h
theorem fT {fr:Fr}{dst:Option Nat}{v:AV}{s:St}{pr:PR}(h:ku fr dst v s=some pr):∃fr',pr= .go fr' s∧fr'.d=fr.d∧(∀k u,fr'.t.get k=some u→(dst=some k∧u=v)∨(dst≠some k∧fr.t.get k=some u))∧((∀d,dst=some d→d≤1000000000)→∀k,dst≠some k→fr'.t.get k=fr.t.get k)∧
  ∀ {N:Nat} {H:Nat→Prop} {ι:Inj} {a:Act} {cv:Value},FRN N H ι fr a→VR ι v cv→(∀d,dst=some d→d<N)→FRN N H ι fr' (a.put dst cv):=by
 unfold ku at h
 split at h
 ·cases h
  exact⟨fr,rfl,rfl,fun k u hu=> .inr ⟨by simp,hu⟩,fun _ _ _=>rfl,fun hf _ _=>hf⟩
 ·rename_i d
  simp only[Tr.rL] at h
  cases h
  refine⟨_,rfl,rfl,fun k u hu=>?_,fun hd k hk=>Tr.qu (hd _ rfl) (fun e=>hk (by rw[e])),fun hf hv hd=>hf.put hv (hd _ rfl)⟩
  rcases Tr.dB hu with⟨rfl,rfl⟩|⟨hne,hu⟩
  ·exact .inl ⟨rfl,rfl⟩
  ·exact .inr ⟨fun e=>hne (Option.some.inj e).symm,hu⟩
end
def tN (P:Program)(ι:Inj)(s:St)(w:World)(r:CR):Ending→World→Prop
 | .returned cv,w'=>∃v s',r= .ret v s'∧∃κ,VR κ v cv∧HR P κ s' w'∧Ext ι s w κ s' w'
 | .panicked chain,w'=>∃v s',r= .pan v s'∧∃κ cv,chain=[{v:=cv,recovered:=false}]∧VR κ v cv∧HR P κ s' w'∧Ext ι s w κ s' w'
 | .outgrown,_=>False
def FE (P:Program)(ro:Option Nat):Fence:={fn:=fun f=>∃fn,P.funcs[f]? =some fn,depth:=none,alive:=false,round:=ro}
theorem LN {P:Program}{ro:Option Nat}(n:Nat):(FE P ro).room n:=fun _ h=>by simp[FE] at h
theorem nU {P:Program}{ro:Option Nat}{f:FuncId}{args:Array Value}{w:World}{R:Ending→World→Prop}(h:CallsIn (FE P none) 0 P f args w R):CallsIn (FE P ro) (0- 1) P f args w R:=h
theorem vy {P:Program}{ro:Option Nat}{l:Nat}{f:FuncId}{tmps:Array Value}{assign body:Code}{w:World}{R:Ending→World→Prop}(h:RoundIn (FE P none) 0 P l f tmps assign body w R):RoundIn (FE P ro) (0- 1) P l f tmps assign body w R:=h
theorem lJ {P:Program}{ro:Option Nat}{p:Prop}:(FE P ro).depth.isSome=true→p:=fun h=>by simp[FE] at h
theorem BV {P:Program}{f:FuncId}{args:Array Value}{w:World}{R:Ending→World→Prop}(h:CallsIn (FE P none) 0 P f args w R):Calls P f args w R:=
 fun cs=>let⟨e,w',fr,r,s,x⟩:=h.2 cs (LN _);⟨e,w',fr,r,s.comes,x⟩
def ny (P:Program)(ι:Inj)(s:St)(w:World)(r:CR)(f:FuncId)(cargs:Array Value):Prop:=
 ((callFunc f cargs).run P w= .ok (.enter f cargs) w∧CallsIn (FE P none) 0 P f cargs w (tN P ι s w r))∨
 ∃cv w',(callFunc f cargs).run P w= .ok (.value cv) w'∧tN P ι s w r (.returned cv) w'
def Lq (P:Program)(ι:Inj)(s:St)(w:World)(r:CR)(g:Tgt)(cargs:Array Value):Prop:=match g with
 | .fn f=>ny P ι s w r f cargs
 | .rnd b=>∀cb d,ι b=some (cb,d)→∃fn tmps assign body,(Instr.yield cb cargs).run P w= .ok (.round cb fn tmps assign body) w∧RoundIn (FE P none) 0 P cb fn tmps assign body w (tN P ι s w r)
def ob (P:Program)(call:dh):Prop:=
 ∀f args s r,call f args s=some r→∀ι w cargs,VRs ι args cargs.toList→HR P ι s w→Lq P ι s w r f cargs
theorem iq {N:Nat}{H:Nat→Prop}{ι:Inj}{fr:Fr}{a:Act}{ops:Array Oper}{o:Oper}{b:Bool}(h:bI ops fr o=some b)(hf:FRN N H ι fr a)(hs:∀t∈o.looksAt ops,¬H t):
  Region.wanted o (yielded ops a.tmps)=b:=by
 unfold bI at h
 unfold Region.wanted
 split at h
 ·rename_i hg;cases h;simp[hg]
 ·rename_i j want hg
  simp only[hg]
  unfold va at h
  split at h
  ·rename_i g hj
   split at h
   ·rename_i d hd
    have hj':ops[j]? =some g:=by simpa using hj
    have hH:¬H d:=hs d (by simp[Oper.looksAt,hg,hj',hd])
    unfold zH at h
    split at h
    ·rename_i c hc
     cases h
     obtain⟨cv,h1,h2⟩:=hf.t d _ hH hc
     rw[h2.bool] at h1
     simp[yielded,hj',hd,h1]
    ·rename_i l hc
     cases h
     obtain⟨cv,h1,h2⟩:=hf.t d _ hH hc
     obtain⟨x,h3,_⟩:=h2.tup
     rw[h3] at h1
     simp[yielded,hj',hd,h1]
    ·cases h
   ·cases h
  ·cases h
theorem iD {P:Program}{f:FuncId}{args:Array Value}{w w':World}{v:Next}(h:(callFunc f args).run P w= .ok v w'):∃fn,P.funcs[f]? =some fn:=by
 cases hP:P.funcs[f]? with
 |some fn=>exact⟨fn,rfl⟩
 |none=>simp[callFunc,hP] at h
theorem Jw {P:Program}{X:Ctx}(hX:dC P X){g:FuncId}(h:NG X g=true):∃fn,P.funcs[g]? =some fn:=by
 unfold NG at h
 split at h
 ·rename_i fn hg;exact⟨fn,hX.fns g fn hg⟩
 ·cases h
theorem vH {P:Program}{X:Ctx}(hX:dC P X){o:Oper}{fr:Fr}{a:Act}{w:World}{ι:Inj}(h:wk X o fr=true)(he:∀x∈o.op.operands,VR ι (fr.opd x) (a.eval x)):∀f,o.about P w a.eval=some f→∃fn,P.funcs[f]? =some fn:=by
 intro f hf
 unfold Oper.about at hf
 split at hf
 ·rename_i c ho
  unfold wk at h
  simp only[ho] at h
  cases hc:c.callee with
  |builtin b=>simp[resolve,hc,Target.leads] at hf
  |value x=>
   have hv:=he x (by simp[Op.operands,Call.operands,ho,hc])
   simp only[hc,Ez] at h
   unfold Aj at h
   split at h
   ·rename_i g first cap e
    rw[e] at hv
    simp only[VR] at hv
    obtain⟨x',y',e1,_,_⟩:=hv
    simp[resolve,hc,e1,Deferred.ofValue,Target.leads] at hf
    subst hf
    exact Jw hX h
   ·rename_i e
    rw[e] at hv
    simp only[VR] at hv
    obtain⟨x',e1,_⟩:=hv
    simp[resolve,hc,e1,Deferred.ofValue] at hf
   ·rename_i e
    rw[e] at hv
    simp only[VR] at hv
    simp[resolve,hc,hv,Deferred.ofValue,Target.leads] at hf
   ·rename_i b e
    rw[e] at hv
    simp only[VR] at hv
    obtain⟨c',d',_,e1⟩:=hv
    simp[resolve,hc,e1,Deferred.ofValue,Target.leads] at hf
   ·cases h
  |invoke x name=>
   have hv:=he x (by simp[Op.operands,Call.operands,ho,hc])
   simp only[hc,Ez] at h
   have e0:(#[a.eval x]++Array.map a.eval c.args)[0]? =some (a.eval x):=by rw[Array.getElem?_append_left (by simp)];rfl
   unfold IU at h
   split at h
   ·rename_i e
    rw[e] at hv
    simp only[VR] at hv
    obtain⟨x',e1,_⟩:=hv
    rw[e1] at e0
    simp only[resolve,hc,Sem.run_pure,Target.leads,e1,e0] at hf
    cases hf
   ·rename_i e
    rw[e] at hv
    simp only[VR] at hv
    rw[hv] at e0
    simp only[resolve,hc,Sem.run_pure,Target.leads,hv,e0] at hf
    cases hf
   ·cases h
 ·cases hf
theorem vU {P:Program}{o:Oper}{a:Act}{w:World}(h:mi o=false):∀f,o.about P w a.eval=some f→∃fn,P.funcs[f]? =some fn:=by
 intro f hf
 unfold Oper.about at hf
 split at hf
 ·rename_i c ho
  unfold mi at h
  simp only[ho] at h
  cases hc:c.callee with
  |builtin b=>simp[resolve,hc,Target.leads] at hf
  |value x=>simp[hc] at h
  |invoke x name=>simp[hc] at h
 ·cases hf
theorem w6 {P:Program}{X:Ctx}(hX:dC P X){call:dh}(hC:ob P call){o:Oper}{fr:Fr}{a:Act}{s:St}{w:World}{ι:Inj}{dst:Option Nat}{pr:PR}(h:mg call fr dst s (fQ X o fr s)=some pr)(hH:HR P ι s w)(he:∀x∈o.op.operands,VR ι (fr.opd x) (a.eval x)):
  ∀f,o.about P w a.eval=some f→∃fn,P.funcs[f]? =some fn:=by
 intro f hf
 have key:∀ {g:FuncId} {args:List AV} {cargs:Array Value},fQ X o fr s=some (.call g args)→(execOp a.eval o).run P w=(callFunc g cargs).run P w→VRs ι args cargs.toList→∃fn,P.funcs[g]? =some fn:=by
  intro g args cargs e1 e2 e3
  rw[e1] at h
  simp only[mg,mz] at h
  unfold hU at h
  split at h
  ·rename_i v s' hcall
   rcases hC (.fn g) args s _ hcall ι w cargs e3 hH with⟨g1,_⟩|⟨cv,w',g1,_⟩
   ·exact iD g1
   ·exact iD g1
  ·rename_i v s' hcall
   rcases hC (.fn g) args s _ hcall ι w cargs e3 hH with⟨g1,_⟩|⟨cv,w',g1,_⟩
   ·exact iD g1
   ·exact iD g1
  ·cases h
 unfold Oper.about at hf
 split at hf
 ·rename_i c ho
  cases hop:fQ X o fr s with
  |none=>rw[hop] at h;simp[mg] at h
  |some r=>
   have hS:=dc hX hop hH he
   have hop':px X c fr s=some r:=by
    have:fQ X o fr s=px X c fr s:=by unfold fQ;rw[ho]
    rw[←this];exact hop
   unfold px at hop'
   cases hc:c.callee with
   |builtin b=>simp[resolve,hc,Target.leads] at hf
   |value x=>
    have hv:=he x (by simp[Op.operands,Call.operands,ho,hc])
    simp only[hc] at hop'
    unfold tm at hop'
    split at hop'
    ·rename_i g first cap e
     cases hop'
     rw[e] at hv
     simp only[VR] at hv
     obtain⟨x',y',e1,_,_⟩:=hv
     simp[resolve,hc,e1,Deferred.ofValue,Target.leads] at hf
     subst hf
     obtain⟨cargs,k1,k2⟩:=hS
     exact key hop k1 k2
    ·rename_i b e
     rw[e] at hv
     simp only[VR] at hv
     obtain⟨c',d',_,e1⟩:=hv
     simp[resolve,hc,e1,Deferred.ofValue,Target.leads] at hf
    ·cases hop'
   |invoke x name=>
    simp only[hc] at hop'
    obtain⟨g,args',rfl,⟨t,cv,e1,e2⟩,_⟩:=pn hX (w:=w) hop' (he x (by simp[Op.operands,Call.operands,ho,hc])) (Bc c.args fun y hy=>he y (by simp[Op.operands,Call.operands,ho,hc,hy]))
    have e0:(#[a.eval x]++Array.map a.eval c.args)[0]? =some (a.eval x):=by rw[Array.getElem?_append_left (by simp)];rfl
    have hd:P.types.size+Made.depth=(P.types.size+Made.depth- 1)+1:=by
     have:0<Made.depth:=by decide
     omega
    rw[e1] at e0
    simp only[resolve,hc,Sem.run_pure,Target.leads,e1,e0] at hf
    rw[hd,e2] at hf
    simp only[Option.some.injEq] at hf
    subst hf
    obtain⟨cargs,k1,k2⟩:=hS
    exact key hop k1 k2
 ·cases hf
section
variable {P:Program}{X:Ctx}(hX:dC P X){call:dh}(hC:ob P call){ops:Array Oper}{Q:Exit→Act→World→Prop}{K:Act→World→Prop}
include hX hC
theorem pU {ro:Option Nat}{i:Nat}{o:Oper}{N:Nat}{H:Nat→Prop}{ι:Inj}{fr:Fr}{a:Act}{s:St}{w:World}{pr:PR}(hi:ops[i]? =some o)(h:ed X call ops o fr s=some pr)
  (hf:FRN N H ι fr a)(hH:HR P ι s w)(hs:∀t∈o.looksAt ops,¬H t)(hd:mj N o=true)(hq:ro=none∨gv o=true)
  (hgo:∀κ a' w' fr' s',pr= .go fr' s'→FRN N H κ fr' a'→HR P κ s' w'→Ext ι s w κ s' w'→(N≤1000000000→∀k,o.dst≠some k→fr'.t.get k=fr.t.get k)→K a' w')
  (hpan:∀κ a' w' fr' s' v cv,pr= .pan v fr' s'→FRN N H κ fr' a'→HR P κ s' w'→Ext ι s w κ s' w'→VR κ v cv→Q (.panic [{v:=cv,recovered:=false}]) a' w'):
  wpOpIn (FE P ro) 0 P ops Q i K a w:=by
 have hdl:∀d,o.dst=some d→d<N:=fun d=>mc hd
 have he:∀x∈o.op.operands,VR ι (fr.opd x) (a.eval x):=fun x hx=>hf.opd x fun t ht=>hs t (by
  subst ht
  exact List.mem_append_left _ (List.mem_filterMap.2 ⟨.tmp t,by simpa using hx,rfl⟩))
 have fin:∀ {κ:Inj} {fr0:Fr} {a0:Act} {s':St} {w':World} {v:AV} {cv:Value},ku fr0 o.dst v s'=some pr→FRN N H κ fr0 a0→HR P κ s' w'→Ext ι s w κ s' w'→VR κ v cv→fr0.t=fr.t→K (a0.put o.dst cv) w':=by
  intro κ fr0 a0 s' w' v cv hg hf0 hh hE hv ht
  obtain⟨fr',rfl,h1,h2,h4,h3⟩:=fT hg
  refine hgo κ _ w' fr' s' rfl (h3 hf0 hv hdl) hh hE fun hN k hk=>?_
  rw[←ht]
  exact h4 (fun d hd=>Nat.le_trans (Nat.le_of_lt (hdl d hd)) hN) k hk
 have hsem:o.semAt (FE P ro).round a.eval=execOp a.eval o:=by
  rcases hq with hq|hq
  ·subst hq;rfl
  ·exact Oper.semAt_eq _ _ _ fun c hc=>by simp[gv,hc] at hq
 unfold wpOpIn
 simp only[hi]
 unfold ed xu at h
 split at h
 ·cases h
 ·rename_i hw
  have hw:=iq hw hf hs
  simp only[hw,Bool.false_eq_true,if_false]
  unfold mM at h
  split at h
  ·rename_i hp
   exact⟨vH hX hp he,fin h hf hH (Ext.refl _ _ _) (by simp[undef,VR,VRs]) rfl⟩
  ·cases h
 ·rename_i hw
  have hw:=iq hw hf hs
  simp only[hw,if_true]
  refine⟨w6 hX hC h hH he,?_⟩
  rw[hsem]
  have post:∀ {v cv s' w' κ},vx fr o.dst v s'=some pr→VR κ v cv→HR P κ s' w'→Ext ι s w κ s' w'→K (a.put o.dst cv) w':=by
   intro v cv s' w' κ hg hv hh hE
   unfold vx at hg
   simp only[oF,km] at hg
   exact fin hg (hf.mono hE.le) hh hE hv rfl
  unfold mg at h
  split at h
  ·cases h
  ·rename_i v hop
   obtain⟨cv,h1,h2⟩:=dc hX hop hH he
   rw[h1]
   exact fin h hf hH (Ext.refl _ _ _) h2 rfl
  ·rename_i v hop
   simp only[km] at h
   obtain⟨cv,h1,h2⟩:=dc hX hop hH he
   rw[h1]
   exact fin h hf hH (Ext.refl _ _ _) h2 rfl
  ·rename_i v s' hop
   obtain⟨κ,w',cv,h1,h2,h3,h4⟩:=dc hX hop hH he
   rcases h1 with h1|⟨h1,rfl⟩
   ·rw[h1];exact post h h2 h3 h4
   ·rw[h1];exact post h h2 h3 h4
  ·rename_i d hop
   obtain⟨cd,cap,h1,h2,h3⟩:=dc hX hop hH he
   rw[h1]
   exact fin (κ:=ι) h ⟨hf.t, .cons h2 h3 hf.d,hf.n⟩ hH (Ext.refl _ _ _) (by simp[undef,VR,VRs]) rfl
  ·rename_i v hop
   cases h
   obtain⟨cv,h1,h2⟩:=dc hX hop hH he
   rw[h1]
   exact hpan ι a w fr s v cv rfl hf hH (Ext.refl _ _ _) h2
  ·rename_i f args hop
   simp only[mz] at h
   obtain⟨cargs,h1,h2⟩:=dc hX hop hH he
   rw[h1]
   unfold hU at h
   split at h
   ·rename_i v s' hcall
    rcases hC (.fn f) args s _ hcall ι w cargs h2 hH with⟨g1,g2⟩|⟨cv,w',g1,v',s'',e,κ,g3,g4,g5⟩
    ·rw[g1]
     refine⟨lJ,nU (CallsIn.mono g2 fun e w' he=>?_)⟩
     cases e with
     |returned cv=>obtain⟨v',s'',e,κ,g3,g4,g5⟩:=he;cases e;exact post h g3 g4 g5
     |panicked chain=>obtain⟨v',s'',e,_⟩:=he;cases e
     |outgrown=>exact he.elim
    ·rw[g1];cases e;exact post h g3 g4 g5
   ·rename_i v s' hcall
    cases h
    rcases hC (.fn f) args s _ hcall ι w cargs h2 hH with⟨g1,g2⟩|⟨cv,w',g1,v',s'',e,κ,g3,g4,g5⟩
    ·rw[g1]
     refine⟨lJ,nU (CallsIn.mono g2 fun e w' he=>?_)⟩
     cases e with
     |returned cv=>obtain⟨v',s'',e,_⟩:=he;cases e
     |panicked chain=>obtain⟨v',s'',e,κ,cv,rfl,g3,g4,g5⟩:=he;cases e;exact hpan κ a w' fr _ _ cv rfl (hf.mono g5.le) g4 g5 g3
     |outgrown=>exact he.elim
    ·cases e
   ·cases h
  ·rename_i b args hop
   simp only[mz] at h
   obtain⟨cb,d,cargs,h0,h1,h2⟩:=dc hX hop hH he
   rw[h1]
   unfold hU at h
   split at h
   ·rename_i v s' hcall
    obtain⟨fn,tmps,assign,body,g1,g2⟩:=hC (.rnd b) args s _ hcall ι w cargs h2 hH cb d h0
    rw[g1]
    refine⟨lJ,vy (RoundIn.mono g2 fun e w' he=>?_)⟩
    cases e with
    |returned cv=>obtain⟨v',s'',e,κ,g3,g4,g5⟩:=he;cases e;exact post h g3 g4 g5
    |panicked chain=>obtain⟨v',s'',e,_⟩:=he;cases e
    |outgrown=>exact he.elim
   ·rename_i v s' hcall
    cases h
    obtain⟨fn,tmps,assign,body,g1,g2⟩:=hC (.rnd b) args s _ hcall ι w cargs h2 hH cb d h0
    rw[g1]
    refine⟨lJ,vy (RoundIn.mono g2 fun e w' he=>?_)⟩
    cases e with
    |returned cv=>obtain⟨v',s'',e,_⟩:=he;cases e
    |panicked chain=>obtain⟨v',s'',e,κ,cv,rfl,g3,g4,g5⟩:=he;cases e;exact hpan κ a w' fr _ _ cv rfl (hf.mono g5.le) g4 g5 g3
    |outgrown=>exact he.elim
   ·cases h
def lG (P:Program)(N:Nat)(ι:Inj)(s:St)(w:World)(r:EX×Fr×St)(e:Exit)(a':Act)(w':World):Prop:=
 ∃κ,FRN N mh κ r.2.1 a'∧HR P κ r.2.2 w'∧Ext ι s w κ r.2.2 w'∧match r.1,e with
  | .norm, .normal=>True
  | .brk i, .exit j=>i=j
  | .ret, .ret=>True
  | .pan v, .panic ch=>∃cv,ch=[{v:=cv,recovered:=false}]∧VR κ v cv
  | _,_=>False
omit hX hC in
theorem lG.of {N:Nat}{ι κ:Inj}{s t:St}{w u:World}{r:EX×Fr×St}{e:Exit}{a':Act}{w':World}(hE:Ext ι s w κ t u)(h:lG P N κ t u r e a' w'):lG P N ι s w r e a' w':=
 let⟨μ,h1,h2,h3,h4⟩:=h
 ⟨μ,h1,h2,hE.trans h3,h4⟩
theorem qe {ro:Option Nat}{N:Nat}{r:EX×Fr×St}{ι₀:Inj}{s₀:St}{w₀:World}:∀ (l:List Oper) (i:Nat),ops.toList.drop i=l→l.all (mj N)=true→(ro=none∨l.all gv=true)→∀ {ι:Inj} {fr:Fr} {a:Act} {s:St} {w:World},oc X call ops l fr s=some r→
  FRN N mh ι fr a→HR P ι s w→Ext ι₀ s₀ w₀ ι s w→wpOpsIn (FE P ro) 0 P ops (lG P N ι₀ s₀ w₀ r) (List.range' i l.length) a w
 |[],i,hl,hd,hq,ι,fr,a,s,w,h,hf,hH,hE=>by
  cases h
  exact⟨ι,hf,hH,hE,trivial⟩
 |o::l,i,hl,hd,hq,ι,fr,a,s,w,h,hf,hH,hE=>by
  have hoi:ops[i]? =some o:=by
   have:=congrArg List.head? hl
   simpa using this
  have hl':ops.toList.drop (i+1)=l:=by
   have:=congrArg List.tail hl
   simpa using this
  simp only[List.all_cons,Bool.and_eq_true] at hd hq
  have hq1:ro=none∨gv o=true:=hq.imp id (·.1)
  have hq2:ro=none∨l.all gv=true:=hq.imp id (·.2)
  rw[List.length_cons,List.range'_succ,wpOpsIn_cons]
  unfold oc iS at h
  split at h
  ·rename_i fr' s' hop
   refine pU hX hC hoi hop hf hH (fun _ _ h=>h) hd.1 hq1 (fun κ a' w' fr'' s'' e hf' hH' hE' _=>?_) (fun κ a' w' fr'' s'' v cv e=>by cases e)
   cases e
   exact qe l (i+1) hl' hd.2 hq2 h hf' hH' (hE.trans hE')
  ·rename_i v fr' s' hop
   cases h
   refine pU hX hC hoi hop hf hH (fun _ _ h=>h) hd.1 hq1 (fun κ a' w' fr'' s'' e=>by cases e) (fun κ a' w' fr'' s'' v cv e hf' hH' hE' hv=>?_)
   cases e
   exact⟨κ,hf',hH',hE.trans hE',cv,rfl,hv⟩
  ·cases h
end
end Go.Am
end
section
namespace Go.Am
mutual
theorem AV.gW:∀ {x y:AV},x.same y=true→x=y
 | .top,y,h=>by cases y<;>simp[AV.same] at h
 | .bool _,y,h=>by cases y<;>simp[AV.same] at h;subst h;rfl
 | .int _ _,y,h=>by cases y<;>simp[AV.same] at h;obtain⟨rfl,rfl⟩:=h;rfl
 | .flt _ _,y,h=>by cases y<;>simp[AV.same] at h;obtain⟨rfl,h⟩:=h;rw[h]
 | .str ⟨_,_⟩,y,h=>by cases y<;>simp[AV.same,Str.beq] at h;rename_i b;obtain⟨b1,b2⟩:=b;simp only at h;obtain⟨rfl,rfl⟩:=h;rfl
 | .ptr _,y,h=>by cases y<;>simp[AV.same] at h;subst h;rfl
 | .slc _ _ _ _,y,h=>by cases y<;>simp[AV.same] at h;obtain⟨⟨⟨rfl,h1⟩,h2⟩,rfl⟩:=h;rw[h1,h2]
 | .map _,y,h=>by cases y<;>simp[AV.same] at h;subst h;rfl
 | .func _ a b,y,h=>by
  cases y<;>simp[AV.same] at h
  obtain⟨⟨rfl,h1⟩,h2⟩:=h
  rw[o7 h1,o7 h2]
 | .nilFunc,y,h=>by cases y<;>simp[AV.same] at h;rfl
 | .any,y,h=>by cases y<;>simp[AV.same] at h;rfl
 | .yld _,y,h=>by cases y<;>simp[AV.same] at h;rw[h]
 | .gp _ _,y,h=>by cases y<;>simp[AV.same] at h;rw[h.1,h.2]
 | .cls _ _ _ _,y,h=>by cases y<;>simp[AV.same] at h;rw[h.1,h.2.1,h.2.2.1,h.2.2.2]
 | .ne _ _,y,h=>by cases y<;>simp[AV.same] at h;rw[h.1,h.2]
 | .iface _ v,y,h=>by
  cases y<;>simp[AV.same] at h
  obtain⟨rfl,h1⟩:=h
  rw[AV.gW h1]
 | .nilIface,y,h=>by cases y<;>simp[AV.same] at h;rfl
 | .agg l,y,h=>by cases y<;>simp[AV.same] at h;rw[o7 h]
 | .tup l,y,h=>by cases y<;>simp[AV.same] at h;rw[o7 h]
theorem o7:∀ {x y:List AV},ja x y=true→x=y
 |[],[],_=>rfl
 |[],_::_,h=>by simp[ja] at h
 | _::_,[],h=>by simp[ja] at h
 |a::l,b::m,h=>by
  simp[ja] at h
  rw[AV.gW h.1,o7 h.2]
end
theorem Gm {x y:Option AV}(h:Gr x y=true):x=y:=by
 cases x<;>cases y<;>simp[Gr] at h
 ·rfl
 ·rw[AV.gW h]
theorem HD {x y:Tr AV}(h:Mk x y=true):x=y:=Tr.tH (fun _ _=>Gm) h
theorem Fu {x y:AB}(h:Dh x y=true):x=y:=by
 unfold Dh at h
 split at h
 ·simp only[Bool.and_eq_true] at h
  rw[Nat.beq_eq.mp h.1,HD h.2]
 ·rfl
 ·cases h
section
variable {X:Ctx}{s s':St}
theorem tR {fr fr':Fr}{ps:Array (Nat×Operand)}(h:∀p∈ps.toList,fr'.opd p.2=fr.opd p.2):parts fr' ps=parts fr ps:=by
 unfold parts
 exact List.map_congr_left fun⟨i,x⟩ hp=>by have:=h _ hp;simp only at this;simp only[this]
theorem nF {fr fr':Fr}{xs:Array Operand}(h:∀x∈xs.toList,fr'.opd x=fr.opd x):xs.toList.map fr'.opd=xs.toList.map fr.opd:=
 List.map_congr_left fun x hx=>h x hx
theorem lD {o:Oper}{fr fr':Fr}(h:∀x∈o.op.operands,fr'.opd x=fr.opd x):fQ X o fr' s=fQ X o fr s:=by
 have opt:∀ (y:Option Operand),(∀x,y=some x→x∈o.op.operands)→y.map fr'.opd=y.map fr.opd:=fun y hy=>by
  cases y with
  |none=>rfl
  |some x=>simp[h x (hy x rfl)]
 unfold fQ
 cases ho:o.op<;>simp only[ho,Op.operands] at h opt<;>try simp only[]
 case build t ps=>rw[tR fun p hp=>h p.2 (by simp only[List.mem_toArray,List.mem_map];exact⟨p,hp,rfl⟩)]
 case buildSlice t n ps=>rw[tR fun p hp=>h p.2 (by simp only[List.mem_toArray,List.mem_map];exact⟨p,hp,rfl⟩)]
 case makeFunc fn a b=>rw[nF fun x hx=>h x (by simp[Array.mem_toList_iff.mp hx]),nF fun x hx=>h x (by simp[Array.mem_toList_iff.mp hx])]
 case makeMap t r=>cases r<;>rfl
 case slice t x lo hi mx=>
  rw[h x (by simp),opt lo fun x hx=>by simp[hx],opt hi fun x hx=>by simp[hx],opt mx fun x hx=>by simp[hx]]
 case call c=>
  have ha:c.args.toList.map fr'.opd=c.args.toList.map fr.opd:=nF fun x hx=>h x (by simp[Call.operands,Array.mem_toList_iff.mp hx])
  unfold px
  cases hc:c.callee<;>simp only[ha]
  case value f=>rw[h f (by simp[Call.operands,hc])]
  case invoke rv name=>rw[h rv (by simp[Call.operands,hc])]
 case defer c=>
  have ha:c.args.toList.map fr'.opd=c.args.toList.map fr.opd:=nF fun x hx=>h x (by simp[Call.operands,Array.mem_toList_iff.mp hx])
  unfold Ic
  cases hc:c.callee<;>simp only[ha]
  case value f=>rw[h f (by simp[Call.operands,hc])]
 all_goals first
  |rfl
  |simp_all
structure St.le (s s':St):Prop where
 h:∀b ab,s.h.get b=some ab→s'.h.get b=some ab
 gl:s'.gl=s.gl
theorem St.le.cells {b:Nat}{c:Tr AV×Nat}(hle:s.le s')(h:s.cells b=some c):s'.cells b=some c:=by
 obtain⟨c,n⟩:=c
 have:=hle.h b _ (St.eJ h)
 simp[St.cells,this]
theorem CU {t:TypeId}{a v:AV}(hle:s.le s')(h:loadT X t a s=some v):loadT X t a s'=some v:=by
 unfold loadT at h ⊢
 split at h
 ·rename_i b off
  cases hc:s.cells b with
  |none=>rw[hc] at h;cases h
  |some c=>rw[hc] at h;simp only[hle.cells hc];exact h
 ·simp only[hle.gl];exact h
 ·cases h
theorem xJ {n:Nat}{v:AV}{r:Nat×List AV}(hle:s.le s')(h:bb s n v=some r):bb s' n v=some r:=by
 unfold bb at h ⊢
 split at h
 ·exact h
 ·rename_i b off es m c x
  split at h
  ·exact h
  ·rename_i h0
   cases hc:s.cells b with
   |none=>rw[hc] at h;cases h
   |some c=>rw[hc] at h;simp only[hle.cells hc];exact h
 ·exact h
 ·cases h
theorem Cm {t:TypeId}{x v:AV}(hle:s.le s')(h:oJ X t x s=some v):oJ X t x s'=some v:=by
 unfold oJ at h ⊢
 split at h<;>(try simp only[*] at h ⊢)
 all_goals try exact h
 ·split at h
  ·rename_i es hg
   rw[hle.h _ _ hg];exact h
  ·cases h
theorem xK {t:TypeId}{x v:AV}{lo hi mx:Option AV}(hle:s.le s')(h:cN X s t x lo hi mx=some v):cN X s' t x lo hi mx=some v:=by
 unfold cN at h ⊢
 split at h<;>(try simp only[*] at h ⊢)
 all_goals try exact h
 ·rename_i n elem b off hu
  unfold C2 at h ⊢
  split at h
  ·rename_i l hh m hb
   cases hc:s.cells b with
   |none=>rw[hc] at h;split at h<;>simp_all
   |some c=>rw[hc] at h;simp only[hle.cells hc];exact h
  ·cases h
theorem xg {t:TypeId}{x k:AV}{ok:Bool}{r:OR}(hle:s.le s')(h:eC X t x k ok s=some r):eC X t x k ok s'=some r:=by
 unfold eC at h ⊢
 split at h
 ·rename_i kt vt hu
  have hm:∀es,mapOf x s=some es→mapOf x s'=some es:=fun es he=>by
   unfold mapOf at he ⊢
   split at he
   ·exact he
   ·rename_i rr
    split at he
    ·rename_i es' hg;simp only[hle.h _ _ hg];exact he
    ·cases he
   ·cases he
  split at h
  ·rename_i d es hd hes
   simp only[hd,hm _ hes];exact h
  ·cases h
 ·cases h
theorem vu {a b:TypeId}{x:AV}{r:OR}(hle:s.le s')(h:bG X a b x s=some r)(hv:∀v s1,r≠ .val v s1):bG X a b x s'=some r:=by
 unfold bG at h ⊢
 split at h<;>(try simp only[*] at h ⊢)
 all_goals try exact h
 ·unfold iG at h
  split at h
  ·split at h
   ·cases h;exact absurd rfl (hv _ _)
   ·cases h
  ·cases h
 ·unfold pK at h ⊢
  split at h
  ·rename_i he
   split at h
   ·rename_i k l hs
    simp only[xJ hle hs];exact h
   ·cases h
  ·cases h
theorem xX {o:Oper}{fr:Fr}{r:OR}(hle:s.le s')(hn:mi o=false)(h:fQ X o fr s=some r)(hv:∀v s1,r≠ .val v s1):fQ X o fr s'=some r:=by
 unfold fQ at h ⊢
 cases ho:o.op<;>simp only[ho] at h ⊢ <;>first
  |exact h
  |(simp[mi,ho] at hn;done)
  |skip
 case alloc t=>
  unfold iT dD at h
  split at h
  ·split at h
   ·cases h;exact absurd rfl (hv _ _)
   ·cases h
  ·cases h
 case box t x=>
  unfold dS dD at h
  split at h
  ·cases h
  ·split at h
   ·cases h;exact absurd rfl (hv _ _)
   ·cases h
 case buildSlice t n ps=>
  unfold bh dQ eV at h
  (repeat' split at h)<;>first|(cases h;done)|(cases h;exact absurd rfl (hv _ _))
 case load t a=>
  unfold aO sT at h ⊢
  split at h
  ·rename_i v hl;rw[CU hle hl];exact h
  ·cases h
 case convert a b x=>exact vu hle h hv
 case makeMap t r=>
  cases r with
  |none=>simp only[nI] at h;cases h;exact absurd rfl (hv _ _)
  |some _=>exact h
 case makeSlice t l c=>
  unfold eu mX at h
  (repeat' split at h)<;>first|(cases h;done)|(cases h;exact absurd rfl (hv _ _))
 case slice t x lo hi mx=>
  unfold jf at h ⊢
  split at h
  ·rename_i v hl;rw[xK hle hl];exact h
  ·cases h
 case lookup t x k ok=>exact xg hle h
 case call c=>
  unfold px at h ⊢
  cases hc:c.callee<;>simp only[hc] at h ⊢
  case value f=>simp[mi,ho,hc] at hn
  case builtin b=>
   unfold dP at h ⊢
   cases b<;>simp only at h ⊢ <;>first
    |exact h
    |(simp[mi,ho,hc] at hn;done)
    |skip
   split at h
   ·unfold tY jf at h ⊢
    split at h
    ·simp only at h ⊢
     split at h
     ·rename_i v hl;simp only[Cm hle hl];exact h
     ·cases h
    ·cases h
   ·cases h
  case invoke=>exact h
end
end Go.Am
end
