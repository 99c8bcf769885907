/-
  A part of the texts.
-/
import Derived.Laws.BytesString
import Derived.Laws.Slices
import Derived.Test.YtofohkdkpbigiaaQac
section
namespace Go.Am
inductive DRs (ι:Inj):List DE→List Deferred→Prop
 |nil:DRs ι [] []
 |cons {d:qC} {c:Deferred} {l:List DE} {m:List Deferred} {cap:Array Value}:c.target= .fn (.func d.fn) cap→VRs ι d.args (c.args++cap).toList→DRs ι l m→DRs ι (.fn d::l) (c::m)
 |mark {b cb:Nat} {c:Deferred} {l:List DE} {m:List Deferred} {x:Nat×Nat}:c.target= .collected cb→ι b=some (cb,x)→DRs ι l m→DRs ι (.mark b::l) (c::m)
theorem DRs.mono {ι κ:Inj}(h:ι.le κ){l:List DE}{m:List Deferred}(hd:DRs ι l m):DRs κ l m:=by
 induction hd with
 |nil=>exact .nil
 |cons h1 h2 _ ih=>exact .cons h1 (h2.mono h) ih
 |mark h1 h2 _ ih=>exact .mark h1 (h _ _ h2) ih
inductive PRs (ι:Inj):List (Nat×AV)→List (Nat×Value)→Prop
 |nil:PRs ι [] []
 |cons {i:Nat} {v:AV} {c:Value} {l:List (Nat×AV)} {m:List (Nat×Value)}:VR ι v c→PRs ι l m→PRs ι ((i,v)::l) ((i,c)::m)
structure FR (ι:Inj)(fr:Fr)(a:Act):Prop where
 t:∀k v,fr.t.get k=some v→∃cv,a.tmps[k]? =some cv∧VR ι v cv
 d:DRs ι fr.d a.defers
theorem FR.mono {ι κ:Inj}(h:ι.le κ){fr:Fr}{a:Act}(hf:FR ι fr a):FR κ fr a:=
 ⟨fun k v hv=>let⟨cv,h1,h2⟩:=hf.t k v hv;⟨cv,h1,h2.mono h⟩,hf.d.mono h⟩
theorem FR.opd {ι:Inj}{fr:Fr}{a:Act}(hf:∀k v,fr.t.get k=some v→∃cv,a.tmps[k]? =some cv∧VR ι v cv)(x:Operand):VR ι (fr.opd x) (a.eval x):=by
 cases x with
 |tmp t=>
  simp only[Fr.opd]
  split
  ·rename_i v hv
   obtain⟨cv,h1,h2⟩:=hf t v hv
   simpa[Act.eval,h1] using h2
  ·simp[VR]
 |const v=>exact ju ι v
 |global g=>simp[Fr.opd,VR,Act.eval]
 |func f=>simp only[Fr.opd,Act.eval,VR];exact⟨#[], #[],rfl,by simp[VRs],by simp[VRs]⟩
def iJ (P:Program)(ι:Inj)(s:St)(w:World)(r:OR)(res:Result Next):Prop:=
 match r with
 | .old v=>∃cv,res= .ok (.value cv) w∧VR ι v cv
 | .pure v=>∃cv,res= .ok (.value cv) w∧VR ι v cv
 | .val v s'=>∃κ w' cv,(res= .ok (.value cv) w'∨(res= .ok .skip w'∧cv=undef))∧VR κ v cv∧HR P κ s' w'∧Ext ι s w κ s' w'
 | .call f args=>∃cargs,res=(callFunc f cargs).run P w∧VRs ι args cargs.toList
 | .round b args=>∃cb d cargs,ι b=some (cb,d)∧res=(Instr.yield cb cargs).run P w∧VRs ι args cargs.toList
 | .dfr d=>∃cd cap,res= .ok (.defer cd) w∧cd.target= .fn (.func d.fn) cap∧VRs ι d.args (cd.args++cap).toList
 | .pan v=>∃cv,res= .halt (.panic cv) w∧VR ι v cv
section
variable {P:Program}{X:Ctx}(hX:dC P X){ι:Inj}{s:St}{w:World}
theorem bp {x:Sem Value}{cv:Value}{w':World}(h:x.run P w= .ok cv w'):(do pure (.value (←x)):Sem Next).run P w= .ok (.value cv) w':=by
 simp[h]
theorem Bi {x:Sem Unit}{w':World}(h:x.run P w= .ok () w'):(do x;pure .skip:Sem Next).run P w= .ok .skip w':=by
 simp[h]
theorem oZ {cs:List AV}{ccs:Array Value}{elem:TypeId}{r:OR}(h:dD cs s=some r)(hH:HR P ι s w)(hv:VRs ι cs ccs.toList):
  ∃κ w' cv,(newRow elem ccs).run P w= .ok ⟨w.heap.size,0,none⟩ w'∧cv= .pointer (some ⟨w.heap.size,0,none⟩)∧∃v s',r= .val v s'∧VR κ v cv∧HR P κ s' w'∧Ext ι s w κ s' w':=by
 unfold dD at h
 split at h
 ·cases h
  obtain⟨h1,h2,h3⟩:=hH.dD (cvs:=ccs) (cs:=cs) (w':={w with heap:=w.heap.push (.cells ccs elem)}) (elem:=elem) (fz:=(0,0))
   (by rw[hv.length,List.take_length];exact hv) (.inl rfl) rfl ⟨rfl,rfl⟩
  refine⟨_,_,_,by simp[newRow],rfl,_,_,rfl,?_,h1,h2⟩
  rw[h3]
  simp only[VR]
  exact⟨_,_,Inj.dr _ _ _,rfl⟩
 ·cases h
include hX in
theorem xc {t:TypeId}{r:OR}(h:iT X t s=some r)(hH:HR P ι s w):
  iJ P ι s w r ((do pure (.value (←Instr.alloc t true (.tuple #[]))):Sem Next).run P w):=by
 unfold iT at h
 split at h
 ·rename_i z hz
  obtain⟨cz,h1,rfl⟩:=fv hX hz w
  have hv:=(ju ι cz).cells (by
   intro e
   rw[e] at h
   simp[dD,AV.cells,aX,AV.one] at h)
  obtain⟨κ,w',cv,h2,rfl,v,s',rfl,h3,h4,h5⟩:=oZ (P:=P) (elem:=t) h hH hv
  exact⟨κ,w',_, .inl (by simp[Instr.alloc,h1,newVar,h2]),h3,h4,h5⟩
 ·cases h
theorem AA {t:TypeId}{x:AV}{cx:Value}{r:OR}(h:dS x s=some r)(hH:HR P ι s w)(hx:VR ι x cx):
  iJ P ι s w r ((do pure (.value (←Instr.box t cx)):Sem Next).run P w):=by
 unfold dS at h
 split at h
 ·cases h
 ·rename_i hne
  have hv:=hx.cells (fun e=>hne (by rw[e]))
  obtain⟨κ,w',cv,h2,rfl,v,s',rfl,h3,h4,h5⟩:=oZ (P:=P) (elem:=t) h hH hv
  exact⟨κ,w',_, .inl (by simp[Instr.box,newVar,h2]),h3,h4,h5⟩
theorem xU:∀ (vs:List AV) (cvs:List Value) (off i:Nat) (cs:List AV) (ccs:Array Value),VRs ι vs cvs→VRs ι cs ccs.toList→
  VRs ι (db cs (off+i) vs) ((cvs.zipIdx i).foldl (fun a (c,j)=>a.setIfInBounds (off+j) c) ccs).toList
 |[],[],_,_,_,_,_,h=>by simpa[db] using h
 |[],_::_,_,_,_,_,h,_=>by simp[VRs] at h
 | _::_,[],_,_,_,_,h,_=>by simp[VRs] at h
 |v::vs,c::cvs,off,i,cs,ccs,h,hc=>by
  simp only[VRs] at h
  simp only[db,List.zipIdx_cons,List.foldl_cons]
  have:=xU vs cvs off (i+1) (cs.set (off+i) v) (ccs.setIfInBounds (off+i) c) h.2 (by
   rw[Array.toList_setIfInBounds];exact hc.set _ h.1)
  exact this
theorem rF:∀ (vs:List AV) (off:Nat) (cs:List AV),(db cs off vs).length=cs.length
 |[],_,_=>rfl
 |v::vs,off,cs=>by simp[db,rF vs]
theorem nK {place:Nat→Option (Nat×Nat)}:∀ (ps:List (Nat×AV)) (cs cs':List AV),cO place ps cs=some cs'→cs'.length=cs.length
 |[],cs,cs',h=>by simp[cO] at h;subst h;rfl
 |(i,v)::rest,cs,cs',h=>by
  simp only[cO] at h
  split at h
  ·split at h
   ·cases h
   ·split at h
    ·rw[nK rest _ _ h,rF]
    ·cases h
  ·cases h
theorem pG {place cplace:Nat→Option (Nat×Nat)}(hp:∀i x,place i=some x→cplace i=some x):∀ (ps:List (Nat×AV)) (cps:List (Nat×Value)) (cs cs':List AV) (ccs:Array Value),
  cO place ps cs=some cs'→PRs ι ps cps→VRs ι cs ccs.toList→∃ccs',Instr.fill cplace ccs cps=some ccs'∧VRs ι cs' ccs'.toList
 |[],_,cs,cs',ccs,h,hf,hc=>by
  cases hf;simp[cO] at h;subst h;exact⟨ccs,by simp[Instr.fill],hc⟩
 |(i,v)::rest,_,cs,cs',ccs,h,hf,hc=>by
  cases hf with
  | @cons _ _ cv _ cps hv hf=>
   simp only[cO] at h
   split at h
   ·rename_i off size hpl
    split at h
    ·cases h
    ·rename_i hne
     split at h
     ·rename_i hcond
      rw[Bool.and_eq_true] at hcond
      have h1:=Nat.beq_eq.mp hcond.1
      have h2:=Nat.ble_eq.mp hcond.2
      have hvc:=hv.cells (fun e=>hne (by rw[e]))
      have hl1:=hvc.length
      have hl2:=hc.length
      have e1:cv.cells.size=size:=by simp at hl1;omega
      have e2:off+cv.cells.size≤ccs.size:=by simp at hl2;omega
      have hs:=xU (v.cells) cv.cells.toList off 0 cs ccs hvc hc
      obtain⟨ccs',h3,h4⟩:=pG hp rest cps _ cs' _ h hf hs
      refine⟨ccs',?_,h4⟩
      simp only[Instr.fill,hp _ _ hpl]
      rw[if_neg (by simp[e1];omega)]
      rw[←h3]
      congr 1
      rw[←Array.foldl_toList]
      simp
     ·cases h
   ·cases h
theorem qT {fr:Fr}{a:Act}(ps:Array (Nat×Operand))(hf:∀p∈ps.toList,VR ι (fr.opd p.2) (a.eval p.2)):
  PRs ι (parts fr ps) (ps.map fun(i,x)=>(i,a.eval x)).toList:=by
 unfold parts
 rw[Array.toList_map]
 revert hf
 induction ps.toList with
 |nil=>exact fun _=> .nil
 |cons p l ih=>exact fun hf=> .cons (hf p (by simp)) (ih fun q hq=>hf q (by simp[hq]))
include hX in
theorem tK:∀ (fs:List Field) (pl:List (Nat×Nat)),cI X fs=some pl→∀w,(fs.mapM fun f=>do pure (f.offset,←sizeOf f.type):Sem (List (Nat×Nat))).run P w= .ok pl w
 |[],pl,h,w=>by simp[cI] at h;subst h;simp
 |f::fs,pl,h,w=>by
  simp only[cI] at h
  split at h
  ·rename_i n hn
   split at h
   ·rename_i l hl;cases h
    have ih:=tK fs l hl w
    rw[List.mapM_cons]
    simp only[Sem.run_bind,cK hX hn,Result.andThen_ok,Sem.run_pure]
    rw[ih];rfl
   ·cases h
  ·cases h
theorem vJ {α β:Type}(xs:Array α)(f:α→Sem β)(l:List β)(h:(xs.toList.mapM f).run P w= .ok l w):(xs.mapM f).run P w= .ok l.toArray w:=by
 rw[Array.mapM_eq_mapM_toList]
 simp[h]
include hX in
theorem xG {t:TypeId}{ps:Array (Nat×Operand)}{fr:Fr}{a:Act}{r:OR}(h:bf X t (parts fr ps)=some r)(hf:∀p∈ps.toList,VR ι (fr.opd p.2) (a.eval p.2)):
  iJ P ι s w r ((do pure (.value (←Instr.build t (ps.map fun(i,x)=>(i,a.eval x)))):Sem Next).run P w):=by
 unfold bf at h
 have hps:=qT (ι:=ι) ps hf
 have ok:∀ {z:AV} {cz:Value} {cs':List AV} {place cplace:Nat→Option (Nat×Nat)},z=ofV cz→eL (cO place (parts fr ps) z.cells)=some r→(∀i x,place i=some x→cplace i=some x)→
   ∃ccs',Instr.fill cplace cz.cells (ps.map fun(i,x)=>(i,a.eval x)).toList=some ccs'∧∃v,r= .pure v∧VR ι v (.agg ccs'):=fun{z cz cs' place cplace} hz h hp=>by
  subst hz
  unfold eL at h
  split at h
  ·rename_i cs hcs
   cases h
   have hzc:VRs ι (ofV cz).cells cz.cells.toList:=by
    by_cases e:ofV cz= .top
    ·
     rw[e]
     cases cz<;>first
      |(simp[ofV,pk] at e;done)
      |exact VRs.one (by simp[VR])
      |skip
     all_goals exact VRs.one (by simp[VR])
    ·exact(ju ι cz).cells e
   obtain⟨ccs',h1,h2⟩:=pG hp _ _ _ _ _ hcs hps hzc
   exact⟨ccs',h1,_,rfl,by simp only[VR];exact⟨_,rfl,h2⟩⟩
  ·cases h
 split at h
 ·rename_i z fs hz hu
  obtain⟨cz,h1,hzz⟩:=fv hX hz w
  unfold bZ at h
  split at h
  ·rename_i pl hpl
   have hpl':=vJ (P:=P) (w:=w) fs (fun f=>do pure (f.offset,←sizeOf f.type)) pl (tK hX _ _ hpl w)
   obtain⟨ccs',h2,v,rfl,h3⟩:=ok (cs':=[]) (cplace:=fun i=>pl.toArray[i]?) hzz h (fun i x hx=>by simpa using hx)
   refine⟨.agg ccs',?_,h3⟩
   simp only[Instr.build,Sem.run_bind,h1,Result.andThen_ok,aL hX hu,hpl',h2,Sem.run_pure]
  ·cases h
 ·rename_i z n elem hz hu
  obtain⟨cz,h1,hzz⟩:=fv hX hz w
  unfold vZ at h
  split at h
  ·rename_i k hk
   obtain⟨ccs',h2,v,rfl,h3⟩:=ok (cs':=[]) (cplace:=fun i=>some (i*k,k)) hzz h (fun i x hx=>hx)
   refine⟨.agg ccs',?_,h3⟩
   simp only[Instr.build,Sem.run_bind,h1,Result.andThen_ok,aL hX hu,cK hX hk,h2,Sem.run_pure]
  ·cases h
 ·cases h
theorem yT (f:Nat→Value):(Array.range 0).map f= #[]:=by
 have:Array.range 0= #[]:=rfl
 rw[this];simp
theorem BJ {z:List AV}:∀ (n i:Nat),i<n*z.length→(kR z n)[i]? =z[i % z.length]?
 |0,i,h=>by simp at h
 |n+1,i,h=>by
  simp only[kR]
  by_cases hi:i<z.length
  ·rw[List.getElem?_append_left hi,Nat.mod_eq_of_lt hi]
  ·rw[List.getElem?_append_right (by omega),BJ n (i- z.length) (by rw[Nat.add_mul,Nat.one_mul] at h;omega)]
   congr 1
   rw[←Nat.mod_eq_sub_mod (by omega)]
theorem fe (z:List AV):∀n,(kR z n).length=n*z.length
 |0=>by simp[kR]
 |n+1=>by simp[kR,fe z n,Nat.add_mul];omega
theorem pe {z:List AV}{cz:Array Value}(hz:VRs ι z cz.toList)(n:Nat):VRs ι (kR z n) ((Array.range (n*cz.size)).map (fun i=>cz[i % cz.size]!)).toList:=by
 have hl:z.length=cz.size:=by simpa using hz.length
 refine VRs.ext (by simp[fe,hl]) fun i a v ha hv=>?_
 have hi:i<n*z.length:=by
  rcases Nat.lt_or_ge i (n*z.length) with h|h
  ·exact h
  ·rw[List.getElem?_eq_none (by rw[fe];exact h)] at ha;cases ha
 rw[BJ n i hi] at ha
 obtain⟨cv,h1,h2⟩:=hz.get ha
 rw[hl] at hi h1
 have h0:0<cz.size:=by
  rcases Nat.eq_zero_or_pos cz.size with h|h
  ·rw[h] at hi;simp at hi
  ·exact h
 have hm:i % cz.size<cz.size:=Nat.mod_lt _ h0
 simp only[Array.toList_map,List.getElem?_map] at hv
 rw[Array.toList_range,List.getElem?_range hi] at hv
 simp only[Option.map_some,Option.some.injEq] at hv
 subst hv
 have:cz[i % cz.size]! =cv:=by
  rw[getElem!_pos cz _ hm]
  have h1:cz[i % cz.size]? =some cv:=by simpa using h1
  rw[Array.getElem?_eq_getElem hm] at h1
  exact Option.some.inj h1
 rw[this];exact h2
include hX in
theorem wU {t:TypeId}{len:Nat}{ps:Array (Nat×Operand)}{fr:Fr}{a:Act}{r:OR}(h:bh X t len (parts fr ps) s=some r)(hH:HR P ι s w)(hf:∀p∈ps.toList,VR ι (fr.opd p.2) (a.eval p.2)):
  iJ P ι s w r ((do pure (.value (←Instr.buildSlice t len (ps.map fun(i,x)=>(i,a.eval x)))):Sem Next).run P w):=by
 unfold bh at h
 have hps:=qT (ι:=ι) ps hf
 split at h
 ·rename_i elem hu
  split at h
  ·rename_i n z hn hz
   split at h
   ·rename_i hc
    simp only[Bool.and_eq_true] at hc
    have c1:=Nat.ble_eq.mp hc.1.1
    have c2:=Nat.beq_eq.mp hc.1.2
    have c3:=Nat.blt_eq.mp hc.2
    obtain⟨cz,h1,rfl⟩:=fv hX hz w
    have hzc:VRs ι (ofV cz).cells cz.cells.toList:=by
     by_cases e:ofV cz= .top
     ·rw[e]
      cases cz<;>first
       |(simp[ofV,pk] at e;done)
       |exact VRs.one (by simp[VR])
       |skip
      all_goals exact VRs.one (by simp[VR])
     ·exact(ju ι cz).cells e
    have hsz:cz.cells.size=n:=by have:=hzc.length;simp at this;omega
    unfold dQ at h
    split at h
    ·rename_i cs hcs
     unfold eV at h
     split at h
     ·cases h
      have hrep:=pe hzc len
      obtain⟨ccs',h2,h3⟩:=pG (cplace:=fun i=>some (i*n,n)) (fun i x hx=>hx) _ _ _ _ _ hcs hps hrep
      have hcl:=h3.length
      have hlen:cs.length=ccs'.size:=by simpa using hcl
      have hfl:cs.length=len*n:=by rw[nK _ _ _ hcs,fe,c2]
      obtain⟨g1,g2,g3⟩:=hH.dD (cvs:=ccs') (cs:=cs) (w':={w with heap:=w.heap.push (.cells ccs' elem)}) (elem:=elem) (fz:=(0,0))
       (by rw[hlen,List.take_of_length_le (by simp)];exact h3) (.inl rfl) rfl ⟨rfl,rfl⟩
      refine⟨_,_, .slice (some ⟨w.heap.size,0,none⟩) len len, .inl ?_,?_,g1,g2⟩
      ·refine bp ?_
       have e1:¬(2^24<len*n):=by omega
       have e2:Instr.fill (fun i=>some (i*n,n)) ((Array.range (len*n)).map (fun i=>(if len*n=0 then(#[]:Array Value) else cz.cells)[i % (if len*n=0 then(#[]:Array Value) else cz.cells).size]!)) (ps.map fun(i,x)=>(i,a.eval x)).toList=some ccs':=by
        by_cases h0:len*n=0
        ·rw[←h2,hsz];simp only[h0,yT]
        ·simp only[h0,if_false];rw[←h2,hsz]
       simp only[Instr.buildSlice,Sem.run_bind,aL hX hu,Result.andThen_ok,cK hX hn,gt_iff_lt,e1,if_false,Sem.run_ite,Sem.run_pure,h1]
       by_cases h0:len*n=0
       ·simp only[h0,if_true] at e2 ⊢
        simp only[Result.andThen_ok,e2,Sem.run_bind,newRow,run_newObj,Result.andThen_ok,Sem.run_pure]
       ·simp only[h0,if_false] at e2 ⊢
        simp only[Result.andThen_ok,e2,Sem.run_bind,newRow,run_newObj,Result.andThen_ok,Sem.run_pure]
      ·rw[g3]
       simp only[VR]
       exact⟨_,_,_,_,Inj.dr _ _ _,rfl,fun _=>rfl,Nat.le_refl _,Nat.le_refl _,fun _=>rfl,by simp[←hlen,←hfl]⟩
     ·cases h
    ·cases h
   ·cases h
  ·cases h
 ·cases h
theorem od {o:Option AV}{r:OR}{x:Sem Value}(h:sT o=some r)(hv:∀v,o=some v→∃cv,x.run P w= .ok cv w∧VR ι v cv):iJ P ι s w r ((do pure (.value (←x)):Sem Next).run P w):=by
 unfold sT at h
 split at h
 ·rename_i v
  cases h
  obtain⟨cv,h1,h2⟩:=hv v rfl
  exact⟨cv,bp h1,h2⟩
 ·cases h
theorem fZ {o:Option AV}{r:OR}{x:Sem Value}(h:jf o=some r)(hv:∀v,o=some v→∃cv,x.run P w= .ok cv w∧VR ι v cv):iJ P ι s w r ((do pure (.value (←x)):Sem Next).run P w):=by
 unfold jf at h
 split at h
 ·rename_i v
  cases h
  obtain⟨cv,h1,h2⟩:=hv v rfl
  exact⟨cv,bp h1,h2⟩
 ·cases h
theorem VR.bool {b:Bool}{cv:Value}(h:VR ι (.bool b) cv):cv= .bool b:=by simpa[VR] using h
theorem VR.int {k:IntKind}{n:Int}{cv:Value}(h:VR ι (.int k n) cv):cv= .int k n:=by simpa[VR] using h
theorem VR.str {x:Str}{cv:Value}(h:VR ι (.str x) cv):∃bs,cv= .string bs∧x=Str.of bs:=by simpa[VR] using h
theorem VR.ptr {b o:Nat}{cv:Value}(h:VR ι (.ptr (some (b,o))) cv):∃c d,ι b=some (c,d)∧cv= .pointer (some ⟨c,d.1+o,none⟩):=by simpa[VR] using h
theorem VR.agg {l:List AV}{cv:Value}(h:VR ι (.agg l) cv):∃x,cv= .agg x∧VRs ι l x.toList:=by simpa[VR] using h
theorem VR.tup {l:List AV}{cv:Value}(h:VR ι (.tup l) cv):∃x,cv= .tuple x∧VRs ι l x.toList:=by simpa[VR] using h
theorem zw {c x y:AV}{cc cx cy:Value}{r:OR}(h:qo c x y=some r)(hc:VR ι c cc)(hx:VR ι x cx)(hy:VR ι y cy):
  iJ P ι s w r ((do pure (.value (if ←asBool cc then cx else cy)):Sem Next).run P w):=by
 unfold qo at h
 split at h
 ·cases h;rw[hc.bool];exact⟨cx,by simp[asBool],hx⟩
 ·cases h;rw[hc.bool];exact⟨cy,by simp[asBool],hy⟩
 ·cases h
theorem BX {x:AV}{cx:Value}{r:OR}{o:Oper}{ρ:Operand→Value}{y:Operand}(h:tJ x=some r)(hx:VR ι x cx)(hy:ρ y=cx)(ho:o.op= .nilCheck y):iJ P ι s w r ((execOp ρ o).run P w):=by
 unfold tJ at h
 split at h
 ·rename_i p
  cases h;obtain⟨b,off⟩:=p
  obtain⟨c,d,h1,rfl⟩:=hx.ptr
  exact⟨_,by simp[execOp,ho,hy],hx⟩
 ·rename_i f l1 l2
  cases h
  simp only[VR] at hx
  obtain⟨p,q,rfl,h1,h2⟩:=hx
  exact⟨.func (.func f) p q,by simp[execOp,ho,hy],by simp only[VR];exact⟨_,_,rfl,h1,h2⟩⟩
 ·rename_i t v
  cases h
  simp only[VR] at hx
  obtain⟨p,rfl,h1⟩:=hx
  exact⟨.iface t p,by simp[execOp,ho,hy],by simp only[VR];exact⟨_,rfl,h1⟩⟩
 ·rename_i b
  cases h
  simp only[VR] at hx
  obtain⟨c,d,h1,rfl⟩:=hx
  exact⟨.func (.yield c) #[] #[],by simp[execOp,ho,hy],by simp only[VR];exact⟨_,_,h1,rfl⟩⟩
 ·cases h
  have hx':=hx
  simp only[VR] at hx
  subst hx
  exact⟨_,by simp[execOp,ho,hy],hx'⟩
 ·cases h
include hX in
theorem um {t:TypeId}{x:AV}{cx:Value}{r:OR}(h:iz X t x=some r)(hx:VR ι x cx):iJ P ι s w r ((do pure (.value (←Instr.makeInterface t cx)):Sem Next).run P w):=by
 unfold iz at h
 split at h
 ·cases h
 ·rename_i d hne hu
  cases h
  refine⟨.iface t cx,bp ?_,by simp only[VR];exact⟨_,rfl,hx⟩⟩
  simp only[Instr.makeInterface,Sem.run_bind,aL hX hu,Result.andThen_ok]
  cases d<;>first|rfl|exact absurd rfl (hne _)
 ·cases h
theorem xB {t:TypeId}{r:OR}(h:nI s=some r)(hH:HR P ι s w):iJ P ι s w r ((do pure (.value (←Instr.makeMap t none)):Sem Next).run P w):=by
 unfold nI at h
 cases h
 obtain⟨h1,h2⟩:=hH.new (z:=0) (w':={w with heap:=w.heap.push (.map #[] 0)}) (ab:= .map []) rfl ⟨rfl,rfl⟩ (fun κ _=>by
  refine⟨rfl, .nil, #[],0,dM,⟨[], .nil, .nil⟩,by simp,by simp⟩)
 refine⟨_,_, .map (some w.heap.size), .inl (bp (by simp[Instr.makeMap])),?_,h1,h2⟩
 simp only[VR,St.new]
 exact⟨_,_,Inj.dr _ _ _,rfl⟩
include hX in
theorem uy {t:TypeId}{l c:AV}{cl cc:Value}{r:OR}(h:eu X t l c s=some r)(hH:HR P ι s w)(hl:VR ι l cl)(hc:VR ι c cc):
  iJ P ι s w r ((do pure (.value (←Instr.makeSlice t cl cc)):Sem Next).run P w):=by
 unfold eu at h
 split at h
 ·rename_i elem kl n kc m hu
  have el:=hl.int;have ec:=hc.int
  subst el;subst ec
  split at h
  ·rename_i k z hk hz
   unfold mX at h
   split at h
   ·rename_i hcond
    simp only[Bool.and_eq_true] at hcond
    obtain⟨⟨c1,c2⟩,c4,c5⟩:=hcond
    have c1:=Nat.ble_eq.mp c1
    have c2:=Nat.ble_eq.mp c2
    have c5:=Nat.beq_eq.mp c5
    cases h
    obtain⟨cz,h1,rfl⟩:=fv hX hz w
    have hzc:=(ju ι cz).cells (fE c4)
    obtain⟨i,hi,hik,hbytes,hk1⟩:=lv hk
    have hk:=m6 hk
    have hsz:cz.cells.size=k:=by have:=hzc.length;simp at this;omega
    have hrep:=pe hzc m
    have hrl:(kR (ofV cz).cells m).length=m*k:=by rw[fe,c5]
    have hb:(i.bytes:Int)*(m:Int)≤2^48:=by
     have h1:i.bytes*m≤1048576*100000:=Nat.mul_le_mul hbytes c2
     have h2:((i.bytes*m:Nat):Int)≤((1048576*100000:Nat):Int):=by exact_mod_cast h1
     rw[Int.natCast_mul] at h2
     omega
    have hwn:IntKind.i64.wrap (Int.ofNat n)=n:=by
     have:fits .i64 (.ofNat n)=true:=by simp[fits,Nat.blt_eq];omega
     exact iu this
    have hwm:IntKind.i64.wrap (Int.ofNat m)=m:=by
     have:fits .i64 (.ofNat m)=true:=by simp[fits,Nat.blt_eq];omega
     exact iu this
    ·obtain⟨g1,g2,g3⟩:=hH.dD (cvs:=(Array.range (m*cz.cells.size)).map (fun i=>cz.cells[i % cz.cells.size]!)) (cs:=kR (ofV cz).cells m)
      (w':={w with heap:=w.heap.push (.cells ((Array.range (m*cz.cells.size)).map (fun i=>cz.cells[i % cz.cells.size]!)) elem)}) (elem:=elem) (fz:=(0,0))
      (by rw[List.take_of_length_le (by rw[hrep.length];exact Nat.le_refl _)];exact hrep) (.inl rfl) rfl ⟨rfl,rfl⟩
     rw[hrl] at g1 g2 g3
     refine⟨_,_, .slice (some ⟨w.heap.size,0,none⟩) n m, .inl (bp ?_),?_,g1,g2⟩
     ·have e1:(Int.ofNat m<0)=False:=by simp
      have e2:¬((i.bytes:Int)*(m:Int)>2^48):=by omega
      have e3:¬((n:Int)>(m:Int)):=by omega
      simp only[Instr.makeSlice,Sem.run_bind,aL hX hu,Result.andThen_ok,asInt,asIntOf,Sem.run_pure,run_typeInfo hX hi,hwn,hwm]
      have e4:(decide ((m:Int)<0)||decide ((i.bytes:Int)*(m:Int)>2^48)||decide ((n:Int)<0)||decide ((n:Int)>(m:Int)))=false:=by
       simp only[Bool.or_eq_false_iff,decide_eq_false_iff_not]
       exact⟨⟨⟨by omega,e2⟩,by omega⟩,e3⟩
      simp only[e4,Bool.false_eq_true,if_false,Sem.run_bind,Sem.run_pure,Result.andThen_ok,run_askRoom,cK hX hk,Int.toNat_natCast,Sem.run_ite,h1,←hsz]
      by_cases h0:m*cz.cells.size=0
      ·simp only[h0,if_true,Result.andThen_ok,newRow,Sem.run_bind,run_newObj,Sem.run_pure,yT]
      ·simp only[h0,if_false,Result.andThen_ok,newRow,Sem.run_bind,run_newObj,Sem.run_pure]
     ·rw[g3]
      simp only[VR]
      exact⟨_,_,_,_,Inj.dr _ _ _,rfl,fun _=>rfl,c1,Nat.le_refl _,fun _=>rfl,by simp[hsz]⟩
   ·cases h
  ·cases h
 ·cases h
end
end Go.Am
end
section
namespace Go.Am
section
variable {P:Program}{X:Ctx}(hX:dC P X){ι:Inj}{s:St}{w:World}
theorem ib {a:Option (Nat×Nat×Nat)}{n c:Nat}{x:Bool}{cv:Value}(h:VR ι (.slc a n c x) cv):∃p m,cv= .slice p n m∧c≤m∧n≤c∧(x=true→m=c)∧(a=none→p=none∧n=0∧c=0):=by
 cases a with
 |none=>simp only[VR] at h;obtain⟨rfl,rfl,rfl,rfl⟩:=h;exact⟨none,0,rfl,Nat.le_refl _,Nat.le_refl _,fun _=>rfl,fun _=>⟨rfl,rfl,rfl⟩⟩
 |some p=>obtain⟨b,o,es⟩:=p;simp only[VR] at h;obtain⟨cb,d,off,m,_,rfl,_,h1,h2,h3,_⟩:=h;exact⟨_,m,rfl,h2,h1,h3,fun e=>by cases e⟩
include hX in
theorem so {t:TypeId}{x:AV}{i:Nat}{cx:Value}{r:OR}(h:ah X t x i=some r)(hx:VR ι x cx):iJ P ι s w r ((do pure (.value (←Instr.fieldAt t cx i)):Sem Next).run P w):=by
 unfold ah at h
 split at h
 ·rename_i g off
  simp only[VR] at hx
  subst hx
  split at h
  ·rename_i fs hu
   unfold vO at h
   split at h
   ·rename_i f hf
    have hf':fs[i]? =some f:=by simpa using hf
    split at h
    ·cases h
    ·rename_i n hn
     cases h
     refine⟨.pointer (some ⟨g,off+f.offset,none⟩),bp ?_,by simp only[VR]⟩
     simp only[Instr.fieldAt,Sem.run_bind,aL hX hu,Result.andThen_ok,hf',Instr.sureAddr,Sem.run_pure,fieldPlace,cK hX hn,Nat.succ_ne_zero,if_false,add_eq]
    ·cases h
   ·cases h
  ·cases h
 ·rename_i b off
  obtain⟨c,d,hb,rfl⟩:=hx.ptr
  split at h
  ·rename_i fs hu
   unfold bj at h
   split at h
   ·rename_i f hf
    have hf':fs[i]? =some f:=by simpa using hf
    split at h
    ·cases h
    ·rename_i n hn
     cases h
     refine⟨.pointer (some ⟨c,d.1+(off+f.offset),none⟩),bp ?_,by simp only[VR];exact⟨c,d,hb,rfl⟩⟩
     simp only[Instr.fieldAt,Sem.run_bind,aL hX hu,Result.andThen_ok,hf',Instr.sureAddr,Sem.run_pure,fieldPlace,cK hX hn,Nat.succ_ne_zero,if_false,add_eq,Nat.add_assoc]
    ·cases h
   ·cases h
  ·cases h
 ·cases h
include hX in
theorem xD {t:TypeId}{x:AV}{i:Nat}{cx:Value}{r:OR}(h:sd X t x i=some r)(hx:VR ι x cx):iJ P ι s w r ((do pure (.value (←Instr.field t cx i)):Sem Next).run P w):=by
 unfold sd at h
 split at h
 ·rename_i fs cs hu
  obtain⟨ccs,rfl,hcs⟩:=hx.agg
  split at h
  ·rename_i f hf
   have hf':fs[i]? =some f:=by simpa using hf
   refine od h fun v hv=>?_
   obtain⟨cv,h1,h2⟩:=mo hX (w:=w) hv hcs
   exact⟨cv,by simp only[Instr.field,Sem.run_bind,aL hX hu,Result.andThen_ok,hf',asAgg,Sem.run_pure,h1],h2⟩
  ·cases h
 ·cases h
include hX in
theorem si {t:TypeId}{x i:AV}{cx ci:Value}{r:OR}(h:fc X t x i=some r)(hx:VR ι x cx)(hi:VR ι i ci):iJ P ι s w r ((do pure (.value (←Instr.indexAt t cx ci)):Sem Next).run P w):=by
 unfold fc at h
 split at h
 ·rename_i n elem b off kk k hu
  obtain⟨c,d,hb,rfl⟩:=hx.ptr
  have e:=hi.int;subst e
  unfold te at h
  split at h
  ·rename_i m hm hlt
   have hlt:=Nat.blt_eq.mp hlt
   cases h
   refine⟨.pointer (some ⟨c,d.1+(off+k*m),none⟩),bp ?_,by simp only[VR];exact⟨c,d,hb,rfl⟩⟩
   have hin:(0≤(k:Int)∧(k:Int)<(n:Int))=True:=by simp;omega
   simp only[Instr.indexAt,Sem.run_bind,asIntOf,Sem.run_pure,Result.andThen_ok,aL hX hu,Instr.sureAddr,hin,if_true,cK hX hm,add_eq,Sem.run_ite,Int.ofNat_eq_natCast,Int.toNat_natCast,Nat.add_assoc]
  ·cases h
 ·rename_i n elem g off kk k hu
  simp only[VR] at hx
  subst hx
  have e:=hi.int;subst e
  unfold zE at h
  split at h
  ·rename_i m hm hlt
   have hlt:=Nat.blt_eq.mp hlt
   cases h
   refine⟨.pointer (some ⟨g,off+k*m,none⟩),bp ?_,by simp only[VR]⟩
   have hin:(0≤(k:Int)∧(k:Int)<(n:Int))=True:=by simp;omega
   simp only[Instr.indexAt,Sem.run_bind,asIntOf,Sem.run_pure,Result.andThen_ok,aL hX hu,Instr.sureAddr,hin,if_true,cK hX hm,add_eq,Sem.run_ite,Int.ofNat_eq_natCast,Int.toNat_natCast]
  ·cases h
 ·rename_i elem b off es n cc x kk k hu
  simp only[VR] at hx
  obtain⟨cb,d,o,m0,hb,rfl,ho,hn,hc,hxx,_⟩:=hx
  have e:=hi.int;subst e
  unfold te at h
  split at h
  ·rename_i m hm hlt
   have hlt:=Nat.blt_eq.mp hlt
   cases h
   have ho:=ho (.inl (by omega))
   subst ho
   refine⟨.pointer (some ⟨cb,d.1+(off+k*m),none⟩),bp ?_,by simp only[VR];exact⟨cb,d,hb,rfl⟩⟩
   have hin:(0≤(k:Int)∧(k:Int)<(n:Int))=True:=by simp;omega
   simp only[Instr.indexAt,Sem.run_bind,asIntOf,Sem.run_pure,Result.andThen_ok,aL hX hu,hin,if_true,cK hX hm,add_eq,Sem.run_ite,Int.ofNat_eq_natCast,Int.toNat_natCast,Nat.add_assoc]
  ·cases h
 ·cases h
theorem Gv {bs:ByteArray}{k:Nat}(hk:k<bs.data.toList.length):(Str.of bs).at k=(bs.data.toList[k]).toNat:=by
 simp only[Str.at,Str.of]
 exact IH _ k hk
include hX in
theorem xI {t:TypeId}{x i:AV}{cx ci:Value}{r:OR}(h:mu X t x i=some r)(hx:VR ι x cx)(hi:VR ι i ci):iJ P ι s w r ((do pure (.value (←Instr.index t cx ci)):Sem Next).run P w):=by
 unfold mu at h
 split at h
 ·rename_i v kk k hu
  obtain⟨bs,rfl,rfl⟩:=hx.str
  have e:=hi.int;subst e
  split at h
  ·rename_i hlt
   have hlt:k<bs.data.toList.length:=Nat.blt_eq.mp hlt
   cases h
   refine⟨.int .u8 ((bs.data.toList[k]).toNat:Int),bp ?_,by simp only[VR,Gv hlt]⟩
   have hk':k<bs.size:=by simpa using hlt
   have hg:bs[k]? =some (bs.data.toList[k]):=by
    rw[getElem?_pos bs k hk']
    simp[ByteArray.getElem_eq_getElem_data]
   simp only[Instr.index,Sem.run_bind,asIntOf,Sem.run_pure,Result.andThen_ok,aL hX hu,Int.ofNat_eq_natCast,Int.natCast_nonneg,if_true,Int.toNat_natCast,hg]
  ·cases h
 ·rename_i n elem cs kk k hu
  obtain⟨ccs,rfl,hcs⟩:=hx.agg
  have e:=hi.int;subst e
  unfold wV at h
  split at h
  ·rename_i m hm hlt
   have hlt:=Nat.blt_eq.mp hlt
   refine od h fun v hv=>?_
   obtain⟨cv,h1,h2⟩:=mo hX (w:=w) hv hcs
   have hin:(0≤(k:Int)∧(k:Int)<(n:Int))=True:=by simp;omega
   exact⟨cv,by simp only[Instr.index,Sem.run_bind,asIntOf,Sem.run_pure,Result.andThen_ok,aL hX hu,hin,if_true,cK hX hm,Sem.run_ite,Int.ofNat_eq_natCast,Int.toNat_natCast,h1],h2⟩
  ·cases h
 ·cases h
theorem uw {x:AV}{i:Nat}{cx:Value}{r:OR}(h:lr x i=some r)(hx:VR ι x cx):iJ P ι s w r ((do pure (.value (←Instr.extract cx i)):Sem Next).run P w):=by
 unfold lr at h
 split at h
 ·rename_i vs
  obtain⟨cvs,rfl,hcs⟩:=hx.tup
  refine od h fun v hv=>?_
  obtain⟨cv,h1,h2⟩:=hcs.get hv
  have h1:cvs[i]? =some cv:=by simpa using h1
  exact⟨cv,by simp[Instr.extract,h1],h2⟩
 ·cases h
theorem jQ {ok:Bool}{v:AV}{b:Bool}{cv:Value}{r:OR}{x:Sem Value}(h:oM ok v b=some r)(hv:VR ι v cv)(hx:x.run P w= .ok (if ok then .tuple #[cv, .bool b] else cv) w):
  iJ P ι s w r ((do pure (.value (←x)):Sem Next).run P w):=by
 unfold oM at h
 cases ok
 ·cases h;exact⟨cv,bp (by simpa using hx),hv⟩
 ·cases h;exact⟨.tuple #[cv, .bool b],bp (by simpa using hx),by simp only[VR];exact⟨_,rfl,by simp[VRs,hv,VR]⟩⟩
include hX in
theorem vF {x:AV}{xt u:TypeId}{ok:Bool}{cx:Value}{r:OR}(h:sf X x u ok=some r)(hx:VR ι x cx):iJ P ι s w r ((do pure (.value (←Instr.typeAssert cx xt u ok)):Sem Next).run P w):=by
 unfold sf at h
 split at h
 ·cases h
 ·rename_i d t' v hne hu
  simp only[VR] at hx
  obtain⟨cv,rfl,hv⟩:=hx
  have hni:∀ms,d≠ .interface ms:=fun ms e=>hne ms e
  split at h
  ·rename_i ht
   have ht:=of_decide_eq_true ht
   subst ht
   refine jQ (cv:=cv) h hv ?_
   simp only[Instr.typeAssert,Sem.run_bind,aL hX hu,Result.andThen_ok]
   cases d<;>first|(cases ok<;>simp;done)|exact absurd rfl (hni _)
  ·rename_i ht
   have ht:t'≠u:=of_decide_eq_false ht
   unfold zU at h
   split at h
   ·split at h
    ·rename_i z hz
     cases h
     obtain⟨cz,h1,rfl⟩:=fv hX hz w
     refine⟨.tuple #[cz, .bool false],bp ?_,by simp only[VR];exact⟨_,rfl,by simp[VRs,VR,ju]⟩⟩
     simp only[Instr.typeAssert,Sem.run_bind,aL hX hu,Result.andThen_ok]
     cases d<;>first|(simp[ht,h1];done)|exact absurd rfl (hni _)
    ·cases h
   ·cases h
 ·rename_i d hne hu
  simp only[VR] at hx;subst hx
  have hni:∀ms,d≠ .interface ms:=fun ms e=>hne ms e
  unfold zU at h
  split at h
  ·split at h
   ·rename_i z hz
    cases h
    obtain⟨cz,h1,rfl⟩:=fv hX hz w
    refine⟨.tuple #[cz, .bool false],bp ?_,by simp only[VR];exact⟨_,rfl,by simp[VRs,VR,ju]⟩⟩
    simp only[Instr.typeAssert,Sem.run_bind,aL hX hu,Result.andThen_ok]
    cases d<;>first|(simp[h1];done)|exact absurd rfl (hni _)
   ·cases h
  ·cases h
 ·cases h
theorem fm {v:AV}{y i:Nat}{cv:Value}{code:BoundsCode}(h:kC v y=some i)(hv:VR ι v cv):∃k,cv= .int k i∧i≤y∧(Instr.sliceBound cv y code).run P w= .ok i w:=by
 unfold kC at h
 split at h
 ·rename_i k j
  split at h
  ·rename_i hle
   have hle:=Nat.ble_eq.mp hle
   cases h
   have e:=hv.int;subst e
   refine⟨k,rfl,hle,?_⟩
   have hin:(0≤(i:Int)∧(i:Int)≤(y:Int))=True:=by simp;omega
   simp only[Instr.sliceBound,Sem.run_bind,asIntOf,Sem.run_pure,Result.andThen_ok,hin,if_true,Sem.run_ite,Int.ofNat_eq_natCast,Int.toNat_natCast]
  ·cases h
 ·cases h
theorem rD {v:AV}{y z i:Nat}{cv:Value}{code:BoundsCode}(h:kC v y=some i)(hz:y≤z)(hv:VR ι v cv):(Instr.sliceBound cv z code).run P w= .ok i w:=by
 obtain⟨k,rfl,hi,_⟩:=fm (P:=P) (w:=w) (code:=code) h hv
 have hin:(0≤(i:Int)∧(i:Int)≤(z:Int))=True:=by simp;omega
 simp only[Instr.sliceBound,Sem.run_bind,asIntOf,Sem.run_pure,Result.andThen_ok,hin,if_true,Sem.run_ite,Int.toNat_natCast]
def VRo (ι:Inj):Option AV→Option Value→Prop
 |none,none=>True
 |some a,some v=>VR ι a v
 | _,_=>False
theorem VRo.of_map {fr:Fr}{a:Act}(o:Option Operand)(hf:∀x,o=some x→VR ι (fr.opd x) (a.eval x)):VRo ι (o.map fr.opd) (o.map a.eval):=by
 cases o with
 |none=>trivial
 |some x=>exact hf x rfl
theorem oX {lo hi mx:Option AV}{clo chi cmx:Option Value}{len cap ccap m h l:Nat}{isS:Bool}(hlo:VRo ι lo clo)(hhi:VRo ι hi chi)(hmx:VRo ι mx cmx)(hcap:cap≤ccap)
  (eb:oL lo hi mx len cap=some (l,h,m))(hlen:len≤cap):
  ∃M,(Instr.sliceBounds isS len ccap clo chi cmx).run P w= .ok (l,h,M) w∧(mx=none→m=cap∧M=ccap)∧(mx≠none→M=m∧m≤cap)∧l≤h∧h≤m:=by
 unfold oL at eb
 split at eb
 ·rename_i m' em
  split at eb
  ·rename_i h' eh
   split at eb
   ·rename_i l' el
    cases eb
    have hl:l≤h∧∀code,(match clo with|some v=>Instr.sliceBound v h code|none=>pure 0:Sem Nat).run P w= .ok l w:=by
     cases lo with
     |none=>cases clo with
      |none=>cases el;exact⟨Nat.zero_le _,fun _=>rfl⟩
      |some _=>exact hlo.elim
     |some v=>cases clo with
      |none=>exact hlo.elim
      |some cv=>exact⟨(fm (P:=P) (w:=w) (code:= .sliceB) el hlo).choose_spec.2.1,fun code=>(fm (P:=P) (w:=w) (code:=code) el hlo).choose_spec.2.2⟩
    cases mx with
    |none=>
     cases cmx with
     |some _=>exact hmx.elim
     |none=>
      cases em
      cases hi with
      |none=>cases chi with
       |some _=>exact hhi.elim
       |none=>
        cases eh
        refine⟨ccap,?_,fun _=>⟨rfl,rfl⟩,fun e=>absurd rfl e,hl.1,hlen⟩
        have h2:=hl.2 .sliceB
        cases clo with
        |none=>simp only[Sem.run_pure,Result.ok.injEq] at h2;simp[Instr.sliceBounds,h2.1]
        |some cv=>simp only at h2;simp[Instr.sliceBounds,h2]
      |some v=>cases chi with
       |none=>exact hhi.elim
       |some cv=>
        obtain⟨k,rfl,hle,_⟩:=fm (P:=P) (w:=w) (code:= .sliceAcap) eh hhi
        have h1:=fun code=>rD (P:=P) (w:=w) (code:=code) eh hcap hhi
        refine⟨ccap,?_,fun _=>⟨rfl,rfl⟩,fun e=>absurd rfl e,hl.1,hle⟩
        have h2:=hl.2 .sliceB
        cases clo with
        |none=>simp only[Sem.run_pure,Result.ok.injEq] at h2;simp[Instr.sliceBounds,h2.1,h1]
        |some cv=>simp only at h2;simp[Instr.sliceBounds,h2,h1]
    |some u=>
     cases cmx with
     |none=>exact hmx.elim
     |some cu=>
      have hmle:=(fm (P:=P) (w:=w) (code:= .slice3Acap) em hmx).choose_spec.2.1
      have h0:=fun code=>rD (P:=P) (w:=w) (code:=code) em hcap hmx
      cases hi with
      |none=>simp[nP] at eh
      |some v=>cases chi with
       |none=>exact hhi.elim
       |some cv=>
        obtain⟨k,rfl,hle,_⟩:=fm (P:=P) (w:=w) (code:= .slice3B) eh hhi
        have h1:=fun code=>(fm (P:=P) (w:=w) (code:=code) eh hhi).choose_spec.2.2
        refine⟨m,?_,fun e=>(by cases e),fun _=>⟨rfl,hmle⟩,hl.1,hle⟩
        have h2:=hl.2 .slice3C
        cases clo with
        |none=>simp only[Sem.run_pure,Result.ok.injEq] at h2;simp[Instr.sliceBounds,h2.1,h0,h1]
        |some cv=>simp only at h2;simp[Instr.sliceBounds,h2,h0,h1]
   ·cases eb
  ·cases eb
 ·cases eb
theorem zl {a:Option (Nat×Nat×Nat)}{size l hh m M len cap ccap:Nat}{ex exact:Bool}{v:AV}{p:Option Addr}(h:mq a size l hh m ex=some v)(hx:VR ι (.slc a len cap exact) (.slice p len ccap))
  (hexx:ex=true→(0<cap∨exact=true)∧M=m)(hmM:m≤M)(hMc:M≤ccap)(hmc:m≤cap)(h4:l≤hh)(h5:hh≤m):
  VR ι v (.slice (if M=l then p else p.map (·.add (l*size))) (hh- l) (M- l)):=by
 unfold mq at h
 split at h
 ·simp only[VR] at hx
  obtain⟨rfl,rfl,_,hcv⟩:=hx
  simp only[Value.slice.injEq,true_and] at hcv
  obtain⟨rfl,rfl⟩:=hcv
  cases h
  have e1:M=0:=by omega
  have e2:hh=0:=by omega
  have e3:l=0:=by omega
  have e4:m=0:=by omega
  subst e1;subst e2;subst e3;subst e4
  simp[VR]
 ·rename_i b off es
  simp only[VR] at hx
  obtain⟨cb,d,o,m0,hb,hcv,ho,_,_,_,hroom⟩:=hx
  simp only[Value.slice.injEq,true_and] at hcv
  obtain⟨rfl,rfl⟩:=hcv
  have room:∀k,k≤ccap→k*es≤ccap*es:=fun k hk=>Nat.mul_le_mul_right _ hk
  cases hes:Nat.beq es size with
  |false=>simp[hes] at h
  |true=>
  cases hl0:Nat.beq l 0 with
  |true=>
   simp only[hes,hl0,Option.some.injEq] at h
   have hes:=Nat.beq_eq.mp hes
   have hl0:=Nat.beq_eq.mp hl0
   subst hl0;subst hes
   subst h
   have ep:(if M=0 then(some (⟨cb,o,none⟩:Addr)) else(some (⟨cb,o,none⟩:Addr)).map (·.add (0*es)))=some ⟨cb,o,none⟩:=by
    split
    ·rfl
    ·simp[add_eq]
   rw[ep]
   simp only[VR,Nat.sub_zero]
   have:=room M hMc
   exact⟨cb,d,o,M,hb,rfl,fun hc=>ho (hc.elim (fun hc=> .inl (by omega)) fun hc=>(hexx hc).1),h5,hmM,fun e=>(hexx e).2,by omega⟩
  |false=>
  cases hml:Nat.beq m l with
  |false=>
   simp only[hes,hl0,hml,Option.some.injEq] at h
   have hes:=Nat.beq_eq.mp hes
   subst hes
   have hl0:l≠0:=fun e=>by rw[e] at hl0;simp at hl0
   have hml:m≠l:=fun e=>by rw[e] at hml;simp at hml
   subst h
   have hM:M≠l:=by omega
   rw[if_neg hM]
   simp only[Option.map_some,add_eq,VR]
   have ho:=ho (.inl (by omega))
   have e1:l*es+(M- l)*es=M*es:=by rw[←Nat.add_mul];congr 1;omega
   have:=room M hMc
   exact⟨cb,d,o+l*es,M- l,hb,rfl,fun _=>by omega,by omega,by omega,fun e=>by have:=(hexx e).2;omega,by omega⟩
  |true=>
  cases hx':ex with
  |true=>
   simp only[hes,hl0,hml,hx',Option.some.injEq] at h
   have hes:=Nat.beq_eq.mp hes
   subst hes
   have hml:=Nat.beq_eq.mp hml
   have hl0:l≠0:=fun e=>by rw[e] at hl0;simp at hl0
   subst h
   have hM:=(hexx hx').2
   rw[if_pos (by omega)]
   simp only[VR]
   have ho:=ho (.inl (by omega))
   have:=room (M- l) (by omega)
   exact⟨cb,d,o,M- l,hb,rfl,fun _=>ho,by omega,by omega,fun _=>by omega,by omega⟩
  |false=>
   simp only[hes,hl0,hml,hx',Option.some.injEq] at h
   have hes:=Nat.beq_eq.mp hes
   subst hes
   have hml:=Nat.beq_eq.mp hml
   subst h
   have e0:hh- l=0:=by omega
   rw[e0]
   by_cases hM:M=l
   ·rw[if_pos hM]
    simp only[VR]
    have:=room (M- l) (by omega)
    exact⟨cb,d,o,M- l,hb,rfl,fun hc=>by simp at hc,by omega,by omega,fun e=>by simp at e,by omega⟩
   ·rw[if_neg hM]
    simp only[Option.map_some,add_eq,VR]
    have e1:l*es+(M- l)*es=M*es:=by rw[←Nat.add_mul];congr 1;omega
    have:=room M hMc
    exact⟨cb,d,o+l*es,M- l,hb,rfl,fun hc=>by simp at hc,by omega,by omega,fun e=>by simp at e,by omega⟩
theorem Es {bs:ByteArray}{l h:Nat}(h2:h≤bs.data.toList.length):(Str.of bs).sub l h=Str.of (bs.extract l h):=by
 have e:(bs.extract l h).data.toList=(bs.data.toList.take h).drop l:=by
  rw[ByteArray.data_extract,Array.toList_extract,List.extract_eq_take_drop,List.drop_take]
 have e2:(bs.data.toList.take h).length=h:=by rw[List.length_take];exact Nat.min_eq_left h2
 simp only[Str.sub,Str.of,e,Str.mk.injEq,List.length_drop,e2,true_and]
 rw[FH,tu,e2]
include hX in
theorem vV {t:TypeId}{x v:AV}{lo hi mx:Option AV}{cx:Value}{clo chi cmx:Option Value}(h:cN X s t x lo hi mx=some v)(hH:HR P ι s w)(hx:VR ι x cx)(hlo:VRo ι lo clo)(hhi:VRo ι hi chi)(hmx:VRo ι mx cmx):
  ∃cv,(Instr.sliceAt t cx clo chi cmx).run P w= .ok cv w∧VR ι v cv:=by
 unfold cN at h
 split at h
 ·rename_i a hu
  obtain⟨bs,rfl,rfl⟩:=hx.str
  split at h
  ·cases h
  ·unfold rN at h
   split at h
   ·rename_i l hh m eb
    cases h
    cases cmx with
    |some _=>exact hmx.elim
    |none=>
     have hsz:(Str.of bs).len=bs.size:=by simp[Str.of]
     rw[hsz] at eb
     obtain⟨M,h1,h2,_,h4,h5⟩:=oX (P:=P) (w:=w) (isS:=false) (ccap:=bs.size) hlo hhi hmx (Nat.le_refl _) eb (Nat.le_refl _)
     have h2:=(h2 rfl).1
     refine⟨.string (bs.extract l hh),?_,?_⟩
     ·simp only[Instr.sliceAt,Sem.run_bind,aL hX hu,Result.andThen_ok,Instr.slice,Option.isSome_none,Bool.false_eq_true,if_false,Sem.run_pure,h1]
     ·simp only[VR];exact⟨_,rfl,Es (by subst h2;simpa using h5)⟩
   ·cases h
 ·rename_i elem a len cap exact hu
  unfold qI at h
  split at h
  ·rename_i l hh m eb
   split at h
   ·rename_i size hsize
    obtain⟨p,ccap,rfl,hcap,hlen,hex,hnil⟩:=ib hx
    obtain⟨M,h1,h2,h3,h4,h5⟩:=oX (P:=P) (w:=w) (isS:=true) hlo hhi hmx hcap eb hlen
    have hrun:(Instr.sliceAt t (.slice p len ccap) clo chi cmx).run P w= .ok (.slice (if M=l then p else p.map (·.add (l*size))) (hh- l) (M- l)) w:=by
     simp only[Instr.sliceAt,Sem.run_bind,aL hX hu,Result.andThen_ok,Instr.slice,h1,cK hX hsize,Sem.run_pure]
    have hmM:m≤M:=by
     by_cases e:mx=none
     ·obtain⟨a1,a2⟩:=h2 e;omega
     ·exact(h3 e).1▸Nat.le_refl _
    have hMc:M≤ccap:=by
     by_cases e:mx=none
     ·exact(h2 e).2▸Nat.le_refl _
     ·obtain⟨a1,a2⟩:=h3 e;omega
    have hmc:m≤cap:=by
     by_cases e:mx=none
     ·exact(h2 e).1▸Nat.le_refl _
     ·exact(h3 e).2
    have hexx:Bg mx exact cap=true→(0<cap∨exact=true)∧M=m:=fun e=>by
     unfold Bg at e
     split at e
     ·rw[Bool.or_eq_true] at e
      exact⟨e.elim .inr fun e=> .inl (Nat.blt_eq.mp e),(h3 (by simp)).1⟩
     ·have:=hex e
      have:=h2 rfl
      exact⟨.inr e,by omega⟩
    exact⟨_,hrun,zl h hx hexx hmM hMc hmc h4 h5⟩
   ·cases h
  ·cases h
 ·rename_i n elem b off hu
  unfold C2 at h
  split at h
  ·rename_i l hh m eb
   split at h
   ·rename_i size c k hsize hc
    have main:∀ {u:AV},(Nat.blt 0 size&&Nat.blt 0 n)=true→c.get (off+n*size- 1)=some u→
      ∃cb d M,ι b=some (cb,d)∧(Instr.sliceAt t cx clo chi cmx).run P w= .ok (.slice (some (if M=l then⟨cb,d.1+off,none⟩ else(⟨cb,d.1+off+l*size,none⟩:Addr))) (hh- l) (M- l)) w∧M=m∧l≤hh∧hh≤m∧m≤n∧d.1+off+n*size≤d.2:=fun{u} hpos hu'=>by
     rw[Bool.and_eq_true] at hpos
     have hp1:=Nat.blt_eq.mp hpos.1
     have hp2:=Nat.blt_eq.mp hpos.2
     obtain⟨cb,d,hb,rfl⟩:=hx.ptr
     obtain⟨cs,e',fz,k1,k2,k3⟩:=hH.cells hb hc
     obtain⟨_,hroom,_⟩:=k3 _ _ hu'
     have hroom:d.1+off+n*size≤d.2:=by
      have:0<n*size:=Nat.mul_pos hp2 hp1
      omega
     obtain⟨M,h1,h2,h3,h4,h5⟩:=oX (P:=P) (w:=w) (isS:=false) hlo hhi hmx (Nat.le_refl n) eb (Nat.le_refl n)
     have hM:M=m∧m≤n:=by
      by_cases e:mx=none
      ·obtain⟨a1,a2⟩:=h2 e;omega
      ·exact h3 e
     refine⟨cb,d,M,hb,?_,hM.1,h4,h5,hM.2,hroom⟩
     simp only[Instr.sliceAt,Sem.run_bind,aL hX hu,Result.andThen_ok,Instr.sureAddr,Sem.run_pure,h1,cK hX hsize,add_eq]
    split at h
    ·rename_i hpos hml hu'
     obtain⟨cb,d,M,hb,hrun,rfl,h4,h5,hmn,hroom⟩:=main hpos hu'
     have hml:=Nat.beq_eq.mp hml
     cases h
     refine⟨_,hrun,?_⟩
     rw[if_pos hml]
     simp only[VR]
     have e2:(M- l)*size≤n*size:=Nat.mul_le_mul_right _ (by omega)
     exact⟨cb,d,d.1+off,M- l,hb,rfl,fun _=>rfl,by omega,Nat.le_refl _,fun _=>rfl,by omega⟩
    ·rename_i hpos hml hu'
     obtain⟨cb,d,M,hb,hrun,rfl,h4,h5,hmn,hroom⟩:=main hpos hu'
     have hml:M≠l:=fun e=>by rw[e] at hml;simp at hml
     cases h
     refine⟨_,hrun,?_⟩
     rw[if_neg hml]
     simp only[VR]
     have e1:l*size+(M- l)*size=M*size:=by rw[←Nat.add_mul];congr 1;omega
     have e3:M*size≤n*size:=Nat.mul_le_mul_right _ hmn
     exact⟨cb,d,d.1+off+l*size,M- l,hb,rfl,fun _=>by omega,by omega,Nat.le_refl _,fun _=>rfl,by omega⟩
    ·cases h
   ·cases h
  ·cases h
 ·cases h
end
end Go.Am
end
