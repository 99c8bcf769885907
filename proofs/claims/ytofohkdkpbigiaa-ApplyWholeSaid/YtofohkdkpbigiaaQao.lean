/-
  A part of the texts.
-/
import Derived.Test.YtofohkdkpbigiaaQan
section
namespace Go.Proofs.Ytofohkdkpbigiaa
open Go.Am
set_option maxRecDepth 10000
set_option maxHeartbeats 1000000
set_option linter.unusedSimpArgs false
def iW:Al→Str→List Ver→Al
 |[],k,vs=>[(k,vs)]
 |(a,ws)::l,k,vs=>match k.beq a with
  |true=>(a,vs)::l
  |false=>(a,ws)::iW l k vs
theorem nk {α β:Type}{R:α→β→Prop}:∀ {l:List α} {m:List β},dM R l m→∀a∈l,∃b∈m,R a b
 |[],[],_,_,h=>by simp at h
 |[],_::_,h,_,_=>h.elim
 | _::_,[],h,_,_=>h.elim
 |x::l,y::m,h,a,ha=>by
  rcases List.mem_cons.mp ha with rfl|ha
  ·exact⟨y,List.mem_cons_self,h.1⟩
  ·obtain⟨b,hb,hr⟩:=nk h.2 a ha;exact⟨b,List.mem_cons_of_mem _ hb,hr⟩
theorem lE {R:AV×AV→Str×List Ver→Prop}{k:Str}{u:AV}{vs:List Ver}(hu:R (.str k,u) (k,vs)):∀ {es:List (AV×AV)} {al:Al},al.Pairwise (fun a b=>a.1≠b.1)→dM (fun e a=>e.1= .str a.1∧(a.1≠k→R e a)) es al→∃es',nz (.str k) u es=some es'∧dM (fun e a=>e.1= .str a.1∧R e a) es' (iW al k vs)∧(∀e∈es',e.2=u∨e∈es)∧(es.Pairwise (fun e f=>∀b,blk e.2=some b→blk f.2≠some b)→(∀e∈es,e.1≠ .str k→∀b,blk e.2=some b→blk u≠some b)→es'.Pairwise fun e f=>∀b,blk e.2=some b→blk f.2≠some b)
 |[],[],_,_=>⟨[(.str k,u)],rfl,⟨⟨rfl,hu⟩,trivial⟩,fun e he=>(by rcases List.mem_singleton.mp he with rfl;exact .inl rfl),fun _ _=>List.pairwise_singleton _ _⟩
 |[],_::_,_,h=>h.elim
 | _::_,[],_,h=>h.elim
 |(a,v)::es,(b,ws)::al,hd,⟨⟨h1,h2⟩,h3⟩=>by
  simp only at h1
  subst h1
  simp only[nz,xX,iW]
  obtain⟨hd1,hd2⟩:=List.pairwise_cons.mp hd
  cases hb:k.beq b with
  |true=>
   have hkb:=Str.nM hb
   subst hkb
   refine⟨_,rfl,⟨⟨rfl,hu⟩,h3.mono fun e x _ hx r=>⟨r.1,r.2 fun e2=>hd1 x hx e2.symm⟩⟩,fun e he=>?_,fun hp hn=>?_⟩
   ·rcases List.mem_cons.mp he with rfl|he
    ·exact .inl rfl
    ·exact .inr (List.mem_cons_of_mem _ he)
   ·obtain⟨p1,p2⟩:=List.pairwise_cons.mp hp
    refine List.pairwise_cons.mpr ⟨fun e he c hc h=>?_,p2⟩
    obtain⟨x,hx,r1,_⟩:=nk h3 e he
    refine hn e (List.mem_cons_of_mem _ he) (fun e2=>?_) c h hc
    rw[r1] at e2
    cases e2
    exact hd1 x hx rfl
  |false=>
   obtain⟨es',g1,g2,g3,g4⟩:=lE hu hd2 h3
   rw[g1]
   refine⟨_,rfl,⟨⟨rfl,h2 fun e=>by subst e;rw[Str.fT] at hb;cases hb⟩,g2⟩,fun e he=>?_,fun hp hn=>?_⟩
   ·rcases List.mem_cons.mp he with rfl|he
    ·exact .inr List.mem_cons_self
    ·exact(g3 e he).imp id (List.mem_cons_of_mem _)
   ·obtain⟨p1,p2⟩:=List.pairwise_cons.mp hp
    refine List.pairwise_cons.mpr ⟨fun e he c hc h=>?_,g4 p2 fun e he=>hn e (List.mem_cons_of_mem _ he)⟩
    rcases g3 e he with h5|h5
    ·rw[h5] at h
     exact hn _ List.mem_cons_self (fun e=>by cases e;rw[Str.fT] at hb;cases hb) c hc h
    ·exact p1 e h5 c hc h
section
variable {O:bj}
theorem MY:X.fns.get 60=some Try.f60:=by kernel_rfl
theorem vP {s:St}{v:Ver}:bB X 67 1 [(0, .agg (vr v))] s=some (.val (.slc (some (s.nx,0,3)) 1 1 true) {s with h:=s.h.put s.nx (.cells (Tr.of (vr v)) 3),nx:=s.nx+1}):=
 jF (cs:=vr v) iC eR sJ rfl (by decide) (by decide) rfl rfl
theorem Bo {v:Ver}:jf (vr v) (vr v)=true:=by
 simp only[vr,nR,pP,pb,sa,sX,Bool.and_self]
theorem tI {i:Nat}{o:Oper}{ok:Bool}{pend:List bn}{L:Sl}{s:St}{k:Bool→List bn→Sl→St→Option RX}{v:AV}{x:AB}(h:s.h.get s.nx=none):nG i o ok pend L s k (some (.val v {s with h:=s.h.put s.nx x,nx:=s.nx+1}))=k false (⟨i,o,v,some (s.nx,x)⟩::pend) (bO o.dst v L) {s with h:=s.h.put s.nx x,nx:=s.nx+1}:=NN h bm
theorem JO {v:Ver}{s:St}:dY (.agg (vr v)) s=some (.val (.ptr (some (s.nx,0))) {s with h:=s.h.put s.nx (.cells (Tr.of (vr v)) 3),nx:=s.nx+1}):=cX rfl
theorem Bc {R:AV×AV→Str×List Ver→Prop}{k:Str}{u:AV}{vs:List Ver}(hu:R (.str k,u) (k,vs)):∀ {es:List (AV×AV)} {al:Al},al.Pairwise (fun a b=>a.1≠b.1)→dM (fun e a=>e.1= .str a.1∧(a.1≠k→R e a)) es al→(.str k,u)∈es→dM (fun e a=>e.1= .str a.1∧R e a) es (iW al k vs)
 |[],[],_,_,h=>by simp at h
 |[],_::_,_,h,_=>h.elim
 | _::_,[],_,h,_=>h.elim
 |(a,v)::es,(b,ws)::al,hd,⟨⟨h1,h2⟩,h3⟩,hm=>by
  simp only at h1
  subst h1
  obtain⟨hd1,hd2⟩:=List.pairwise_cons.mp hd
  simp only[iW]
  cases hb:k.beq b with
  |true=>
   have hkb:=Str.nM hb
   subst hkb
   have hv:v=u:=by
    rcases List.mem_cons.mp hm with e|hm
    ·cases e;rfl
    ·obtain⟨x,hx,r1,_⟩:=nk h3 _ hm
     cases r1
     exact absurd rfl (hd1 x hx)
   subst hv
   exact⟨⟨rfl,hu⟩,h3.mono fun e x _ hx r=>⟨r.1,r.2 fun e2=>hd1 x hx e2.symm⟩⟩
  |false=>
   refine⟨⟨rfl,h2 fun e=>by subst e;rw[Str.fT] at hb;cases hb⟩,Bc hu hd2 h3 ?_⟩
   rcases List.mem_cons.mp hm with e|hm
   ·cases e;rw[Str.fT] at hb;cases hb
   ·exact hm
theorem nr {c:Tr AV}{l:List AV}{n i:Nat}(h:ldL c 0 n=some l)(hi:i<n)(u:AV):∃c',stL [u] i c=some c'∧ldL c' 0 n=some (l.set i u):=by
 obtain⟨h1,h2⟩:=aR.mp h
 obtain⟨c',hc⟩:=ia (c:=c) (l:=[u]) (off:=i) fun j hj=>⟨l[i],by
  have:j=0:=by simpa using hj
  subst this
  have:=h2 i l[i] (List.getElem?_eq_getElem (by omega))
  simpa using this⟩
 refine⟨c',hc,aR.mpr ⟨by simp[h1],fun j w hj=>?_⟩⟩
 rw[lB hc]
 rw[List.getElem?_set] at hj
 by_cases e:i=j
 ·subst e
  rw[if_pos rfl,if_pos (by omega)] at hj
  rw[if_pos ⟨by omega,by simp⟩]
  simpa using hj
 ·rw[if_neg e] at hj
  rw[if_neg (by simp;omega)]
  exact h2 j w hj
def Hq (m:SM)(k:Str)(v:Ver)(m':SM)(e:Int):Prop:=
 (lkA m.all k≠[]∧mu (lkA m.all k)=v.t∧e=0∧m'={m with all:=iW m.all k ((lkA m.all k).dropLast++[v])})∨
 ((lkA m.all k=[]∨mu (lkA m.all k)≠v.t)∧m.room≤m.size∧e=4∧m'=m)∨
 ((lkA m.all k=[]∨mu (lkA m.all k)≠v.t)∧m.size<m.room∧e=0∧m'.room=m.room∧m'.size=m.size+1∧m'.last=v.t∧m'.all=iW m.all k (lkA m.all k++[v])∧
  ((lkA m.all k≠[]∧m'.ps=m.ps)∨(lkA m.all k=[]∧Rt m'.ps∧∃A B,m.ps.flatten=A++B∧m'.ps.flatten=A++(k,⟨0,0⟩)::B)))
theorem B0 (ho:Hx O)(hs:O 60=none){s:St}{G:Nat→Prop}{p:AV}{m:SM}{y:Lay}(h:StR s G p m y)(hk:SOK m)(htd:Tidy s){k:Str}{v:Ver}:
  Ca X O (.fn 60) [p, .str k, .agg (vr v)] s fun z=>∃s' G' m' y' e,z= .ret (.int .i64 e) s'∧StR s' G' p m' y'∧Am.Mod G s s'∧(∀b,G' b→G b∨s.nx≤b)∧Hq m k v m' e:=by
 have hp:=h.ptr
 subst hp
 refine bb hs MY rfl ?_
 unfold aD aD aD aD
 (repeat(first|refine uS ?_ |refine aa rfl ?_));refine ad (by simp(disch:=omega) only[uB,uT,JO];exact rfl) ?_;(repeat(first|refine uS ?_ |refine aa rfl ?_))
 refine WL.st (fun s'=>Am.Mod No s s'∧s'.nx=s.nx+1∧s'.h.get s.nx=some (.cells (Tr.of (vr v)) 3)) ⟨(Mod.refl _ s).new _,rfl,bm⟩ ?_
 rintro s1 ⟨hm1,hn1,g1⟩
 have h1:=h.mod hm1 (fun _ _ h=>h)
 obtain⟨c0,c1,c2,c3,c4⟩:=h1.cell
 obtain⟨u,hu,hacc,hub,hoth,hin⟩:=h1.look k
 obtain⟨a,c,x,rfl,_⟩:=hacc.sli.ex
 rw[List.length_map] at hu hacc hub hoth hin
 have v0:(Tr.of (vr v)).get 0=some (.int .i64 v.t):=by rw[dF];rfl
 have vall:ldL (Tr.of (vr v)) 0 3=some (vr v):=jK rfl rfl
 have hlen:=hk.len k
 have hpgs:=hk.Iw
 cases hl0:(lkA m.all k).length with
 |zero=>
  have hnil:lkA m.all k=[]:=List.eq_nil_of_length_eq_zero hl0
  rw[hl0] at hu hacc hub hoth
  (repeat(first|refine uS ?_ |refine aa rfl ?_));refine ad (by simp(disch:=omega) only[uB,uT,bN,iz,Nat.zero_add,ah dz rfl dJ h1.hsb c4,hu];exact rfl) ?_;(repeat(first|refine uS ?_ |refine aa rfl ?_))
  (repeat(first|refine uS ?_ |refine aa rfl ?_));refine ad (by simp(disch:=omega) only[uB,uT];exact rfl) ?_;(repeat(first|refine uS ?_ |refine aa rfl ?_))
  refine uJ [0,1,5,7,8] ?_
  have d0:decide ((0:Int)<((0:Nat):Int))=false:=by simp
  refine aU [(0,none),(1,none),(2,none),(3,none),(4,none),(5,none),(6,none),(7,none),(8,none),(9,none),(10,none),(11,none),(12,none)] (by kernel_rfl) (by kernel_rfl) (by simp(disch:=omega) only[uB,uT,Nat.reduceEqDiff,↓reduceIte,uD,mask,aC,aB,d0,aP];exact rfl) ?_
  refine uH ?_
  refine uJ [0,1,5,7,8,29] ?_
  refine ae rfl rfl (fun hc=>?_) (fun hc=>?_)
  ·cases hc
  ·refine uH ?_
   cases hfull:decide (m.room≤m.size) with
   |true=>
    refine aU [(0,none),(1,none),(2,none),(3,none),(4,none),(5,none),(6,none),(7,none),(8,none)] (by kernel_rfl) (by kernel_rfl) (by simp(disch:=omega) only[uB,uT,Nat.reduceEqDiff,↓reduceIte,uD,mask,aC,aB,bN,ou,uR,Nat.zero_add,ah aN rfl ay h1.hsb c0,ah aN rfl ay h1.hsb c1,hfull];exact rfl) ?_
    refine uH ?_
    refine uJ [43] ?_
    refine ae rfl rfl (fun hc=>?_) (fun hc=>?_)
    ·refine uG ?_
     refine ai rfl ?_
     exact⟨s1,G,m,y,4,rfl,h1,hm1.mono (fun _ _ h=>h.elim),fun b hb=> .inl hb, .inr (.inl ⟨.inl hnil,by simpa using hfull,rfl,rfl⟩)⟩
    ·cases hc
   |false=>
    refine aU [(0,none),(1,none),(2,none),(3,none),(4,none),(5,none),(6,none),(7,none),(8,none)] (by kernel_rfl) (by kernel_rfl) (by simp(disch:=omega) only[uB,uT,Nat.reduceEqDiff,↓reduceIte,uD,mask,aC,aB,bN,ou,uR,Nat.zero_add,ah aN rfl ay h1.hsb c0,ah aN rfl ay h1.hsb c1,hfull];exact rfl) ?_
    refine uH ?_
    refine uJ [0,1,5,7,8,43] ?_
    refine ae rfl rfl (fun hc=>?_) (fun hc=>?_)
    ·cases hc
    ·have d1:decide (((0:Nat):Int)=0)=true:=by simp
     (repeat(first|refine uS ?_ |refine aa rfl ?_));refine ad (by simp(disch:=omega) only[uB,uT,d1];exact rfl) ?_;(repeat(first|refine uS ?_ |refine aa rfl ?_))
     refine uJ [0,1,5,7,46] ?_
     refine ae rfl rfl (fun hc=>?_) (fun hc=>?_)
     ·have hnk:∀q∈m.ps.flatten,q.1≠k:=fun q hq e=>(hk.keys k).mp ⟨q,hq,e⟩ hnil
      repeat(first|refine uS ?_ |refine aa rfl ?_ |refine ad (by simp(disch:=omega) only[uB,uT,bN,nU,Nat.zero_add,ah bV rfl iq h1.hsb c3,ng];exact rfl) ?_)
      refine aj (yU ho h1.pg (fun b hb=>h1.lt b (h1.fg b hb)) hk.rt (by omega) (w:=⟨0,0⟩) hnk) ?_ ?_
      ·rintro kv' s2 ⟨kv2,s2',ps',A,B,e,hm2,hpg2,hrt2,hA,hB,_,_,hcap2⟩
       cases e
       have h2:=h1.mod hm2 (fun _ _ h=>h)
       obtain⟨cs3,hcs3,lcs3⟩:=nr h2.hcs (i:=3) (by decide) kv'
       obtain⟨ak,hkv⟩:=hpg2.slc
       obtain⟨ck,xk,rfl⟩:=hkv
       refine bD (by simp(disch:=omega) only[uB,uT,bN,nU,Nat.zero_add,eY (v:= .slc ak ps'.length ck xk) iq h2.hsb rfl rfl hcs3];exact rfl) ?_
       refine uH ?_
       refine uJ [0,1,5,7] ?_
       have hsbn:y.sb<s2.nx:=h2.lt _ h2.gs.1
       refine WL.st (fun s'=>Am.Mod (fun b=>b=y.sb) s2 s'∧s'.nx=s2.nx∧s'.h.get y.sb=some (.cells cs3 5)) ⟨(Mod.refl _ s2).put _ (.inr rfl) hsbn,rfl,bm⟩ ?_
       rintro s3 ⟨hm3,hn3,hsb3⟩
       have hm1n:=hm1.nx
       have hm2n:=hm2.nx
       have hsb0:y.sb<s.nx:=h.lt _ h.gs.1
       have hmb0:y.mb<s.nx:=h.lt _ h.gs.2.1
       let F':Nat→Prop:=fun b=>s1.nx≤b∧b<s2.nx
       have hF'out:∀b,(G b∧b≠y.sb∧b≠y.mb∧¬y.F b)→¬F' b:=fun b hb h=>by have:=h1.lt b hb.1;have:=h.1;have:=hm1.nx;have:=h.2;have h9:=h1.lt b hb.1;exact absurd h.1 (by omega)
       have hF'lt:∀b,F' b→b<s3.nx:=fun b hb=>by rw[hn3];exact hb.2
       have htd3:Tidy s3:=hm3.tidy (hm2.tidy (hm1.tidy htd))
       have hmb3:s3.h.get y.mb=some (.map y.es):=(hm3.old _ (by omega) (fun h=>h2.gs.2.2.1 h.symm)).trans h2.hmb
       have g3:s3.h.get s.nx=some (.cells (Tr.of (vr v)) 3):=(hm3.old _ (by omega) (fun(h:s.nx=y.sb)=>by omega)).trans ((hm2.old _ (by omega) (fun h=>h)).trans g1)
       have hF'sb:∀b,F' b→b≠y.sb∧b≠y.mb:=fun b hb=>⟨by have:=hb.1;omega,by have:=hb.1;omega⟩
       have hF'u:∀b,F' b→∀c',blk (.slc a 0 c x)=some c'→b≠c':=fun b hb c' hc e=>by have:=h.lt c' (hub c' hc).1;have:=hb.1;omega
       have hF'G:∀b,F' b→G b∨s.nx<b:=fun b hb=> .inr (by have:=hb.1;omega)
       have hpg3:Pgs s3 F' (.slc ak ps'.length ck xk) ps':=hpg2.mod hm3 (fun b hb (e:b=y.sb)=>(hF'sb b hb).1 e)
       have hms3:Am.Mod G s s3:=((hm1.mono fun _ _ h=>h.elim).trans (hm2.mono (C:=G) fun _ _ h=>h.elim) (fun _ _ h=>h)).trans (hm3.mono (C:=G) fun b _ (e:b=y.sb)=>by rw[e];exact h.gs.1) (fun _ _ h=>h)
       have hacc3:=(hacc.mod hm2 (fun _ _ h=>h)).mod hm3 (fun b hb (e:b=y.sb)=>(hub b hb).2.1 e)
       have hu_sb:∀b,blk (.slc a 0 c x)=some b→b=y.sb→False:=fun b hb e=>(hub b hb).2.1 e
       have hu_mb:∀b,blk (.slc a 0 c x)=some b→b=y.mb→False:=fun b hb e=>(hub b hb).2.2.1 e
       have hu_v:∀b,blk (.slc a 0 c x)=some b→b=s.nx→False:=fun b hb e=>by have:=h.lt b (hub b hb).1;omega
       have d4:cs3.get 4=some (.map (some y.mb)):=by have:=(aR.mp lcs3).2 4 _ rfl;rwa [Nat.zero_add] at this
       have hent3:dM (Jl s3 G y.F y.sb y.mb) y.es m.all:=h2.hes.mono fun e a _ _ r=>⟨r.1,r.2.1.mod hm3 (fun b hb (e:b=y.sb)=>(r.2.2 b hb).2.1 e),r.2.2⟩
       have hfree3:=htd3 s3.nx (Nat.le_refl _)
       let s4:St:={s3 with h:=s3.h.put s3.nx (.cells (Tr.of (vr v)) 3),nx:=s3.nx+1}
       have hm4:Am.Mod No s3 s4:=(Mod.refl _ s3).new _
       have hs4n:s4.nx=s3.nx+1:=rfl
       have hsrc:aZ s4 3 (.slc (some (s3.nx,0,3)) 1 1 true)=some ([vr v].length,[vr v].flatten):=gB (rows:=[vr v]) rfl (fun r hr=>by rcases List.mem_singleton.mp hr with rfl;rfl) bm rfl
       obtain⟨l',s5,e1,e2,e3,e4⟩:=gG iC yQ (hacc3.mod hm4 (fun _ _ h=>h)) hsrc (fun r hr=>by rcases List.mem_singleton.mp hr with rfl;rfl) (by simp) rfl (by simp;omega)
       simp only[s4] at e1
       obtain⟨al,nl,cl,xl,rfl⟩:∃a n c x,l'=AV.slc a n c x:=by obtain⟨a,c,x,e,_⟩:=e2.sli.ex;exact⟨a,_,c,x,e⟩
       have hb5:s5.h.get y.sb=some (.cells cs3 5):=(e3.old _ (by omega) (fun h=>hu_sb _ h rfl)).trans ((hm4.old _ (by omega) (fun h=>h)).trans hsb3)
       have hmb5:s5.h.get y.mb=some (.map y.es):=(e3.old _ (by omega) (fun h=>hu_mb _ h rfl)).trans ((hm4.old _ (by omega) (fun h=>h)).trans hmb3)
       have g5:s5.h.get s.nx=some (.cells (Tr.of (vr v)) 3):=(e3.old _ (by omega) (fun h=>hu_v _ h rfl)).trans ((hm4.old _ (by omega) (fun h=>h)).trans g3)
       have hG5:∀b,G b→b<s.nx:=fun b hb=>h.lt b hb
       obtain⟨es',hes',hE',hmem',hap'⟩:=lE (R:=fun e a=>Acc s5 e.2 3 (a.2.map vr)∧∀b,blk e.2=some b→(G b∨(s.nx<b∧b<s5.nx))∧b≠y.sb∧b≠y.mb∧b≠s.nx∧¬F' b) (k:=k) (u:= .slc al nl cl xl) (vs:=lkA m.all k++[v]) (al:=m.all) (es:=y.es) ⟨by simpa using e2,fun b hb=>by have hlt5:s4.nx<s5.nx:=e2.lt e4;rw[e4] at hb;simp at hb;exact⟨.inr ⟨by omega,by omega⟩,by omega,by omega,by omega,fun h=>by have:=hF'lt b h;omega⟩⟩ hk.dist (hent3.mono fun e a he _ r=>⟨r.1,fun hne=>⟨(r.2.1.mod hm4 (fun _ _ h=>h)).mod e3 (fun b hb h=>hoth e he (fun e2=>hne (by rw[r.1] at e2;cases e2;rfl)) b hb h),fun b hb=>⟨.inl (r.2.2 b hb).1,(r.2.2 b hb).2.1,(r.2.2 b hb).2.2.1,fun e=>(by have:=hG5 b (r.2.2 b hb).1;omega),hF'out b (r.2.2 b hb)⟩⟩⟩)
       have hset:fy X 71 (.map (some y.mb)) (.str k) (.slc al nl cl xl) s5=some (.val (.tup []) {s5 with h:=s5.h.put y.mb (.map es')}):=by
        simp only[fy,dz,aE,hmb5,plainKey,hes',Cn]
       refine aU [(0,none),(1,none),(2,none),(3,none),(4,none),(5,none),(6,none),(7,none),(8,some [false,true,false,true,true,true,true,true]),(9,some [false,false,false,false,false,false])] (by kernel_rfl) (by kernel_rfl) (by simp(disch:=omega) only[uB,uT,Nat.reduceEqDiff,↓reduceIte,uD,mask,aC,aB,hset,bN,iz,Nat.zero_add,ah dz rfl dJ hsb3 d4,ah dz rfl dJ hb5 d4,cE ki rfl eR g3 vall,cE ki rfl eR g5 vall,vP,tI hfree3,fM iC (.inl rfl),e1,NZ,Bo];exact rfl) ?_
       refine uH ?_
       refine uJ [0,5] ?_
       have hnx5:s4.nx<s5.nx:=e2.lt e4
       have hmb_ne:=h.gs.2.2.1
       refine WL.st (fun s'=>Am.Mod (fun b=>b=y.mb) s5 s'∧s'.nx=s5.nx∧s'.h.get y.mb=some (.map es')) ⟨(Mod.refl _ s5).put _ (.inr rfl) (by omega),rfl,bm⟩ ?_
       rintro s6 ⟨hm6,hn6,hmb6⟩
       have hb6:s6.h.get y.sb=some (.cells cs3 5):=(hm6.old _ (by omega) (fun(h:y.sb=y.mb)=>hmb_ne h)).trans hb5
       have g6:s6.h.get s.nx=some (.cells (Tr.of (vr v)) 3):=(hm6.old _ (by omega) (fun(h:s.nx=y.mb)=>by omega)).trans g5
       obtain⟨cs4,hcs4,lcs4⟩:=nr lcs3 (i:=1) (by decide) (.int .i64 (m.size+1))
       have d31:cs3.get 1=some (.int .i64 m.size):=by have:=(aR.mp lcs3).2 1 _ rfl;rwa [Nat.zero_add] at this
       have hsz:=hk.size
       have hrm:=hk.room
       (repeat(first|refine uS ?_ |refine aa rfl ?_));refine ad (by simp(disch:=omega) only[uB,uT,bN,ou,Nat.zero_add,ah aN rfl ay hb6 d31,eY (v:= .int .i64 (m.size+1)) ay hb6 rfl rfl hcs4];exact rfl) ?_;(repeat(first|refine uS ?_ |refine aa rfl ?_))
       refine uJ [0,5] ?_
       refine WL.st (fun s'=>Am.Mod (fun b=>b=y.sb) s6 s'∧s'.nx=s6.nx∧s'.h.get y.sb=some (.cells cs4 5)) ⟨(Mod.refl _ s6).put _ (.inr rfl) (by omega),rfl,bm⟩ ?_
       rintro s7 ⟨hm7,hn7,hb7⟩
       have g7:s7.h.get s.nx=some (.cells (Tr.of (vr v)) 3):=(hm7.old _ (by omega) (fun(h:s.nx=y.sb)=>by omega)).trans g6
       obtain⟨cs5,hcs5,lcs5⟩:=nr lcs4 (i:=2) (by decide) (.int .i64 v.t)
       (repeat(first|refine uS ?_ |refine aa rfl ?_));refine ad (by simp(disch:=omega) only[uB,uT,bN,pO,yT,Nat.zero_add,ah aN rfl ay g7 v0,eY (v:= .int .i64 v.t) ay hb7 rfl rfl hcs5];exact rfl) ?_;(repeat(first|refine uS ?_ |refine aa rfl ?_))
       refine uJ [0] ?_
       refine WL.st (fun s'=>Am.Mod (fun b=>b=y.sb) s7 s'∧s'.nx=s7.nx∧s'.h.get y.sb=some (.cells cs5 5)) ⟨(Mod.refl _ s7).put _ (.inr rfl) (by omega),rfl,bm⟩ ?_
       rintro s8 ⟨hm8,hn8,hb8⟩
       refine uG ?_
       refine ai rfl ?_
       let G':Nat→Prop:=fun b=>G b∨(s.nx<b∧b<s8.nx)
       have hmb8:s8.h.get y.mb=some (.map es'):=(hm8.old _ (by omega) (fun(h:y.mb=y.sb)=>hmb_ne h.symm)).trans ((hm7.old _ (by omega) (fun(h:y.mb=y.sb)=>hmb_ne h.symm)).trans hmb6)
       have late:∀b,b≠y.sb→b≠y.mb→b<s5.nx→s8.h.get b=s5.h.get b:=fun b h1 h2 h3=>(hm8.old _ (by omega) (fun h=>h1 h)).trans ((hm7.old _ (by omega) (fun h=>h1 h)).trans (hm6.old _ (by omega) (fun h=>h2 h)))
       have hm58:Am.Mod (fun b=>b=y.sb∨b=y.mb) s5 s8:=((hm6.mono fun _ _ h=> .inr h).trans (hm7.mono fun _ _ h=> .inl h) (fun _ _ h=>h)).trans (hm8.mono fun _ _ h=> .inl h) (fun _ _ h=>h)
       have hfar:∀e∈y.es,e.1≠ .str k→∀b,blk e.2=some b→blk (.slc al nl cl xl)≠some b:=fun e he _ b hb h0=>by
        obtain⟨a0,_,r⟩:=nk h.hes e he
        have:=h.lt b (r.2.2 b hb).1
        rw[e4] at h0;simp at h0;omega
       refine⟨s8,G',⟨m.room,m.size+1,v.t,ps',iW m.all k (lkA m.all k++[v])⟩,⟨y.sb,y.mb, .slc ak ps'.length ck xk,es',cs5,F'⟩,0,rfl,⟨rfl,hb8,by simpa using lcs5,hmb8,⟨.inl h.gs.1, .inl h.gs.2.1,hmb_ne,fun h=>(hF'sb _ h).1 rfl,fun h=>(hF'sb _ h).2 rfl⟩,fun b hb=>(hF'G b hb).imp id fun h=>⟨h,by have:=hF'lt b hb;omega⟩,fun b hb=>?_,((hpg3.no hm4).mod e3 (fun b hb h=>hF'u b hb b h rfl)).mod hm58 (fun b hb h=>h.elim (hF'sb b hb).1 (hF'sb b hb).2),hcap2,hE'.mono fun e a _ _ r=>⟨r.1,r.2.1.mod hm58 (fun b hb h=>h.elim (r.2.2 b hb).2.1 (r.2.2 b hb).2.2.1),fun b hb=>⟨(r.2.2 b hb).1.imp id fun h=>⟨h.1,by omega⟩,(r.2.2 b hb).2.1,(r.2.2 b hb).2.2.1,(r.2.2 b hb).2.2.2.2⟩⟩,hap' h.apart hfar⟩,?_,fun b hb=>hb.imp id fun h=>by omega, .inr (.inr ⟨.inl hnil,by have:=of_decide_eq_false hfull;omega,rfl,rfl,rfl,rfl,rfl, .inr ⟨hnil,hrt2,A,B,hA,hB⟩⟩)⟩
       ·rcases hb with hb|hb
        ·have:=h.lt b hb;omega
        ·exact hb.2
       ·exact((hms3.trans (hm4.mono (C:=G) fun _ _ h=>h.elim) (fun _ _ h=>h)).trans (e3.mono (C:=G) fun b _ h=>(hub b h).1) (fun _ _ h=>h)).trans (hm58.mono (C:=G) fun b _ h=>h.elim (fun e=>by rw[e];exact h1.gs.1) (fun e=>by rw[e];exact h1.gs.2.1)) (fun _ _ h=>h)
      ·(intro v s' h;simp at h)
     ·cases hc
 |succ n=>
  have hne:lkA m.all k≠[]:=fun e=>by rw[e] at hl0;simp at hl0
  obtain⟨q,hq⟩:∃q,(lkA m.all k)[n]? =some q:=⟨_,List.getElem?_eq_getElem (by omega)⟩
  have hlast:mu (lkA m.all k)=q.t:=by
   unfold mu
   rw[List.getLast?_eq_getElem?,hl0,Nat.add_sub_cancel,hq]
  obtain⟨bq,tq,nq,xq,eq,hbqn,l1,l2,l3,l4,l5⟩:=zy hacc hq
  cases eq
  rw[hl0] at hu hacc hub hoth hin
  rw[Nat.zero_add] at l2
  (repeat(first|refine uS ?_ |refine aa rfl ?_));refine ad (by simp(disch:=omega) only[uB,uT,bN,iz,Nat.zero_add,ah dz rfl dJ h1.hsb c4,hu];exact rfl) ?_;(repeat(first|refine uS ?_ |refine aa rfl ?_))
  (repeat(first|refine uS ?_ |refine aa rfl ?_));refine ad (by simp(disch:=omega) only[uB,uT];exact rfl) ?_;(repeat(first|refine uS ?_ |refine aa rfl ?_))
  refine uJ [0,1,5,7,8] ?_
  have d0:decide ((0:Int)<((n+1:Nat):Int))=true:=by simp
  have hn1':((n+1:Nat):Int)- 1=((n:Nat):Int):=by omega
  cases hdq:decide (q.t=v.t) with
  |true=>
   have heq:=of_decide_eq_true hdq
   refine aU [(0,none),(1,none),(2,none),(3,none),(4,none),(5,none),(6,none),(7,none),(8,none),(9,none),(10,none),(11,none),(12,none)] (by kernel_rfl) (by kernel_rfl) (by simp(disch:=omega) only[uB,uT,Nat.reduceEqDiff,↓reduceIte,uD,mask,aC,aB,d0,hn1',hdq,aQ iC eR,Int.toNat_natCast,pO,Nat.zero_add,ah aN rfl ay l1 l2,ah aN rfl ay g1 v0];exact rfl) ?_
   refine uH ?_
   refine uJ [0,5,7,8,29] ?_
   refine ae rfl rfl (fun hc=>?_) (fun hc=>?_)
   ·obtain⟨b2,x2,t2,c6,k6',e2,_,z2,z3,ac,hmS⟩:=hacc.set (i:=n) (by simp;omega) (r:=vr v) rfl
    simp only[List.length_map,hl0] at e2 z2 z3 ac hmS
    cases e2
    rw[Nat.zero_add] at z3
    have hn3:((n+1:Nat):Int)- 1=((n:Nat):Int):=by omega
    (repeat(first|refine uS ?_ |refine aa rfl ?_));refine ad (by simp(disch:=omega) only[uB,uT,hn3,cE ki rfl eR g1 vall,aQ iC eR,Int.toNat_natCast,Nat.zero_add,eY (v:= .agg (vr v)) eR z2 rfl rfl z3];exact rfl) ?_;(repeat(first|refine uS ?_ |refine aa rfl ?_))
    refine uJ [0] ?_
    refine WL.st (fun s'=>Am.Mod (fun d=>d=bq) s1 s'∧Am.Acc s' (.slc (some (bq,0,3)) (n+1) (n+1) x) 3 (((lkA m.all k).map vr).set n (vr v))) ⟨hmS,ac⟩ ?_
    rintro s2 ⟨hm2,ac2⟩
    refine uG ?_
    refine ai rfl ?_
    have hset:((lkA m.all k).map vr).set n (vr v)=((lkA m.all k).dropLast++[v]).map vr:=by
     rw[←List.map_set]
     congr 1
     have e:=List.dropLast_concat_getLast hne
     have hl:(lkA m.all k).dropLast.length=n:=by simp[hl0]
     calc (lkA m.all k).set n v=((lkA m.all k).dropLast++[(lkA m.all k).getLast hne]).set n v:=by rw[e]
      _=(lkA m.all k).dropLast++[v]:=by rw[List.set_append_right _ _ (by omega),hl,Nat.sub_self];rfl
    rw[hset] at ac2
    have hbq:=hub bq rfl
    have hu0:(AV.str k,AV.slc (some (bq,0,3)) (n+1) (n+1) x)∈y.es:=hin hne
    refine⟨s2,G,{m with all:=iW m.all k ((lkA m.all k).dropLast++[v])},y,0,rfl,⟨rfl,(hm2.old _ (h1.lt _ h1.gs.1) (fun(e:y.sb=bq)=>hbq.2.1 e.symm)).trans h1.hsb,h1.hcs,(hm2.old _ (h1.lt _ h1.gs.2.1) (fun(e:y.mb=bq)=>hbq.2.2.1 e.symm)).trans h1.hmb,h1.gs,h1.fg,fun b hb=>Nat.lt_of_lt_of_le (h1.lt b hb) hm2.nx,h1.pg.mod hm2 (fun b hb (e:b=bq)=>hbq.2.2.2 (by rw[←e];exact hb)),h1.cap,?_,h1.apart⟩,(hm1.mono (C:=G) fun _ _ h=>h.elim).trans (hm2.mono (C:=G) fun b _ (e:b=bq)=>by rw[e];exact hbq.1) (fun _ _ h=>h),fun b hb=> .inl hb, .inl ⟨hne,by rw[hlast];exact heq,rfl,rfl⟩⟩
    exact Bc (R:=fun e a=>Acc s2 e.2 3 (a.2.map vr)∧∀b,blk e.2=some b→G b∧b≠y.sb∧b≠y.mb∧¬y.F b) ⟨ac2,hub⟩ hk.dist (h1.hes.mono fun e a he _ r=>⟨r.1,fun hna=>⟨r.2.1.mod hm2 (fun b hb (e2:b=bq)=>hoth e he (fun e3=>hna (by rw[r.1] at e3;cases e3;rfl)) b hb (by rw[e2];rfl)),r.2.2⟩⟩) hu0
   ·cases hc
  |false=>
   have heq:=of_decide_eq_false hdq
   refine aU [(0,none),(1,none),(2,none),(3,none),(4,none),(5,none),(6,none),(7,none),(8,none),(9,none),(10,none),(11,none),(12,none)] (by kernel_rfl) (by kernel_rfl) (by simp(disch:=omega) only[uB,uT,Nat.reduceEqDiff,↓reduceIte,uD,mask,aC,aB,d0,hn1',hdq,aQ iC eR,Int.toNat_natCast,pO,Nat.zero_add,ah aN rfl ay l1 l2,ah aN rfl ay g1 v0];exact rfl) ?_
   refine uH ?_
   refine uJ [0,1,5,7,8,29] ?_
   refine ae rfl rfl (fun hc=>?_) (fun hc=>?_)
   ·cases hc
   ·refine uH ?_
    cases hfull:decide (m.room≤m.size) with
    |true=>
     refine aU [(0,none),(1,none),(2,none),(3,none),(4,none),(5,none),(6,none),(7,none),(8,none)] (by kernel_rfl) (by kernel_rfl) (by simp(disch:=omega) only[uB,uT,Nat.reduceEqDiff,↓reduceIte,uD,mask,aC,aB,bN,ou,uR,Nat.zero_add,ah aN rfl ay h1.hsb c0,ah aN rfl ay h1.hsb c1,hfull];exact rfl) ?_
     refine uH ?_
     refine uJ [43] ?_
     refine ae rfl rfl (fun hc=>?_) (fun hc=>?_)
     ·refine uG ?_
      refine ai rfl ?_
      exact⟨s1,G,m,y,4,rfl,h1,hm1.mono (fun _ _ h=>h.elim),fun b hb=> .inl hb, .inr (.inl ⟨.inr (by rw[hlast];exact heq),by simpa using hfull,rfl,rfl⟩)⟩
     ·cases hc
    |false=>
     refine aU [(0,none),(1,none),(2,none),(3,none),(4,none),(5,none),(6,none),(7,none),(8,none)] (by kernel_rfl) (by kernel_rfl) (by simp(disch:=omega) only[uB,uT,Nat.reduceEqDiff,↓reduceIte,uD,mask,aC,aB,bN,ou,uR,Nat.zero_add,ah aN rfl ay h1.hsb c0,ah aN rfl ay h1.hsb c1,hfull];exact rfl) ?_
     refine uH ?_
     refine uJ [0,1,5,7,8,43] ?_
     refine ae rfl rfl (fun hc=>?_) (fun hc=>?_)
     ·cases hc
     ·have d1:decide (((n+1:Nat):Int)=0)=false:=by simp;omega
      (repeat(first|refine uS ?_ |refine aa rfl ?_));refine ad (by simp(disch:=omega) only[uB,uT,d1];exact rfl) ?_;(repeat(first|refine uS ?_ |refine aa rfl ?_))
      refine uJ [0,1,5,7,46] ?_
      refine ae rfl rfl (fun hc=>?_) (fun hc=>?_)
      ·cases hc
      ·refine uH ?_
       refine uJ [0,1,5,7] ?_
       have hm1n:=hm1.nx
       have hsb0:y.sb<s.nx:=h.lt _ h.gs.1
       have hmb0:y.mb<s.nx:=h.lt _ h.gs.2.1
       let F':Nat→Prop:=y.F
       have hF'lt:∀b,F' b→b<s1.nx:=fun b hb=>h1.lt b (h1.fg b hb)
       have hF'out:∀b,(G b∧b≠y.sb∧b≠y.mb∧¬y.F b)→¬F' b:=fun b hb=>hb.2.2.2
       have hF'sb:∀b,F' b→b≠y.sb∧b≠y.mb:=fun b hb=>⟨fun e=>h.gs.2.2.2.1 (by rw[←e];exact hb),fun e=>h.gs.2.2.2.2 (by rw[←e];exact hb)⟩
       have hF'u:∀b,F' b→∀c',blk (.slc (some (bq,0,3)) (n+1) (n+1) x)=some c'→b≠c':=fun b hb c' hc e=>(hub c' hc).2.2.2 (by rw[←e];exact hb)
       have hF'G:∀b,F' b→G b∨s.nx<b:=fun b hb=> .inl (h1.fg b hb)
       have hpg3:=h1.pg
       have hms3:Am.Mod G s s1:=hm1.mono fun _ _ h=>h.elim
       have htd3:Tidy s1:=hm1.tidy htd
       have hmb3:=h1.hmb
       have hsb3:=h1.hsb
       have lcs3:=h1.hcs
       have g3:=g1
       have hacc3:=hacc
       have hu_sb:∀b,blk (.slc (some (bq,0,3)) (n+1) (n+1) x)=some b→b=y.sb→False:=fun b hb e=>(hub b hb).2.1 e
       have hu_mb:∀b,blk (.slc (some (bq,0,3)) (n+1) (n+1) x)=some b→b=y.mb→False:=fun b hb e=>(hub b hb).2.2.1 e
       have hu_v:∀b,blk (.slc (some (bq,0,3)) (n+1) (n+1) x)=some b→b=s.nx→False:=fun b hb e=>by have:=h.lt b (hub b hb).1;omega
       have d4:=c4
       have hent3:=h1.hes
       have hfree3:=htd3 s1.nx (Nat.le_refl _)
       let s4:St:={s1 with h:=s1.h.put s1.nx (.cells (Tr.of (vr v)) 3),nx:=s1.nx+1}
       have hm4:Am.Mod No s1 s4:=(Mod.refl _ s1).new _
       have hs4n:s4.nx=s1.nx+1:=rfl
       have hsrc:aZ s4 3 (.slc (some (s1.nx,0,3)) 1 1 true)=some ([vr v].length,[vr v].flatten):=gB (rows:=[vr v]) rfl (fun r hr=>by rcases List.mem_singleton.mp hr with rfl;rfl) bm rfl
       obtain⟨l',s5,e1,e2,e3,e4⟩:=gG iC yQ (hacc3.mod hm4 (fun _ _ h=>h)) hsrc (fun r hr=>by rcases List.mem_singleton.mp hr with rfl;rfl) (by simp) rfl (by simp;omega)
       simp only[s4] at e1
       obtain⟨al,nl,cl,xl,rfl⟩:∃a n c x,l'=AV.slc a n c x:=by obtain⟨a,c,x,e,_⟩:=e2.sli.ex;exact⟨a,_,c,x,e⟩
       have hb5:s5.h.get y.sb=some (.cells y.cs 5):=(e3.old _ (by omega) (fun h=>hu_sb _ h rfl)).trans ((hm4.old _ (by omega) (fun h=>h)).trans hsb3)
       have hmb5:s5.h.get y.mb=some (.map y.es):=(e3.old _ (by omega) (fun h=>hu_mb _ h rfl)).trans ((hm4.old _ (by omega) (fun h=>h)).trans hmb3)
       have g5:s5.h.get s.nx=some (.cells (Tr.of (vr v)) 3):=(e3.old _ (by omega) (fun h=>hu_v _ h rfl)).trans ((hm4.old _ (by omega) (fun h=>h)).trans g3)
       have hG5:∀b,G b→b<s.nx:=fun b hb=>h.lt b hb
       obtain⟨es',hes',hE',hmem',hap'⟩:=lE (R:=fun e a=>Acc s5 e.2 3 (a.2.map vr)∧∀b,blk e.2=some b→(G b∨(s.nx<b∧b<s5.nx))∧b≠y.sb∧b≠y.mb∧b≠s.nx∧¬F' b) (k:=k) (u:= .slc al nl cl xl) (vs:=lkA m.all k++[v]) (al:=m.all) (es:=y.es) ⟨by simpa using e2,fun b hb=>by have hlt5:s4.nx<s5.nx:=e2.lt e4;rw[e4] at hb;simp at hb;exact⟨.inr ⟨by omega,by omega⟩,by omega,by omega,by omega,fun h=>by have:=hF'lt b h;omega⟩⟩ hk.dist (hent3.mono fun e a he _ r=>⟨r.1,fun hne=>⟨(r.2.1.mod hm4 (fun _ _ h=>h)).mod e3 (fun b hb h=>hoth e he (fun e2=>hne (by rw[r.1] at e2;cases e2;rfl)) b hb h),fun b hb=>⟨.inl (r.2.2 b hb).1,(r.2.2 b hb).2.1,(r.2.2 b hb).2.2.1,fun e=>(by have:=hG5 b (r.2.2 b hb).1;omega),hF'out b (r.2.2 b hb)⟩⟩⟩)
       have hset:fy X 71 (.map (some y.mb)) (.str k) (.slc al nl cl xl) s5=some (.val (.tup []) {s5 with h:=s5.h.put y.mb (.map es')}):=by
        simp only[fy,dz,aE,hmb5,plainKey,hes',Cn]
       refine aU [(0,none),(1,none),(2,none),(3,none),(4,none),(5,none),(6,none),(7,none),(8,some [false,true,false,true,true,true,true,true]),(9,some [false,false,false,false,false,false])] (by kernel_rfl) (by kernel_rfl) (by simp(disch:=omega) only[uB,uT,Nat.reduceEqDiff,↓reduceIte,uD,mask,aC,aB,hset,bN,iz,Nat.zero_add,ah dz rfl dJ hsb3 d4,ah dz rfl dJ hb5 d4,cE ki rfl eR g3 vall,cE ki rfl eR g5 vall,vP,tI hfree3,fM iC (.inl rfl),e1,NZ,Bo];exact rfl) ?_
       refine uH ?_
       refine uJ [0,5] ?_
       have hnx5:s4.nx<s5.nx:=e2.lt e4
       have hmb_ne:=h.gs.2.2.1
       refine WL.st (fun s'=>Am.Mod (fun b=>b=y.mb) s5 s'∧s'.nx=s5.nx∧s'.h.get y.mb=some (.map es')) ⟨(Mod.refl _ s5).put _ (.inr rfl) (by omega),rfl,bm⟩ ?_
       rintro s6 ⟨hm6,hn6,hmb6⟩
       have hb6:s6.h.get y.sb=some (.cells y.cs 5):=(hm6.old _ (by omega) (fun(h:y.sb=y.mb)=>hmb_ne h)).trans hb5
       have g6:s6.h.get s.nx=some (.cells (Tr.of (vr v)) 3):=(hm6.old _ (by omega) (fun(h:s.nx=y.mb)=>by omega)).trans g5
       obtain⟨cs4,hcs4,lcs4⟩:=nr lcs3 (i:=1) (by decide) (.int .i64 (m.size+1))
       have d31:y.cs.get 1=some (.int .i64 m.size):=by have:=(aR.mp lcs3).2 1 _ rfl;rwa [Nat.zero_add] at this
       have hsz:=hk.size
       have hrm:=hk.room
       (repeat(first|refine uS ?_ |refine aa rfl ?_));refine ad (by simp(disch:=omega) only[uB,uT,bN,ou,Nat.zero_add,ah aN rfl ay hb6 d31,eY (v:= .int .i64 (m.size+1)) ay hb6 rfl rfl hcs4];exact rfl) ?_;(repeat(first|refine uS ?_ |refine aa rfl ?_))
       refine uJ [0,5] ?_
       refine WL.st (fun s'=>Am.Mod (fun b=>b=y.sb) s6 s'∧s'.nx=s6.nx∧s'.h.get y.sb=some (.cells cs4 5)) ⟨(Mod.refl _ s6).put _ (.inr rfl) (by omega),rfl,bm⟩ ?_
       rintro s7 ⟨hm7,hn7,hb7⟩
       have g7:s7.h.get s.nx=some (.cells (Tr.of (vr v)) 3):=(hm7.old _ (by omega) (fun(h:s.nx=y.sb)=>by omega)).trans g6
       obtain⟨cs5,hcs5,lcs5⟩:=nr lcs4 (i:=2) (by decide) (.int .i64 v.t)
       (repeat(first|refine uS ?_ |refine aa rfl ?_));refine ad (by simp(disch:=omega) only[uB,uT,bN,pO,yT,Nat.zero_add,ah aN rfl ay g7 v0,eY (v:= .int .i64 v.t) ay hb7 rfl rfl hcs5];exact rfl) ?_;(repeat(first|refine uS ?_ |refine aa rfl ?_))
       refine uJ [0] ?_
       refine WL.st (fun s'=>Am.Mod (fun b=>b=y.sb) s7 s'∧s'.nx=s7.nx∧s'.h.get y.sb=some (.cells cs5 5)) ⟨(Mod.refl _ s7).put _ (.inr rfl) (by omega),rfl,bm⟩ ?_
       rintro s8 ⟨hm8,hn8,hb8⟩
       refine uG ?_
       refine ai rfl ?_
       let G':Nat→Prop:=fun b=>G b∨(s.nx<b∧b<s8.nx)
       have hmb8:s8.h.get y.mb=some (.map es'):=(hm8.old _ (by omega) (fun(h:y.mb=y.sb)=>hmb_ne h.symm)).trans ((hm7.old _ (by omega) (fun(h:y.mb=y.sb)=>hmb_ne h.symm)).trans hmb6)
       have late:∀b,b≠y.sb→b≠y.mb→b<s5.nx→s8.h.get b=s5.h.get b:=fun b h1 h2 h3=>(hm8.old _ (by omega) (fun h=>h1 h)).trans ((hm7.old _ (by omega) (fun h=>h1 h)).trans (hm6.old _ (by omega) (fun h=>h2 h)))
       have hm58:Am.Mod (fun b=>b=y.sb∨b=y.mb) s5 s8:=((hm6.mono fun _ _ h=> .inr h).trans (hm7.mono fun _ _ h=> .inl h) (fun _ _ h=>h)).trans (hm8.mono fun _ _ h=> .inl h) (fun _ _ h=>h)
       have hfar:∀e∈y.es,e.1≠ .str k→∀b,blk e.2=some b→blk (.slc al nl cl xl)≠some b:=fun e he _ b hb h0=>by
        obtain⟨a0,_,r⟩:=nk h.hes e he
        have:=h.lt b (r.2.2 b hb).1
        rw[e4] at h0;simp at h0;omega
       refine⟨s8,G',⟨m.room,m.size+1,v.t,m.ps,iW m.all k (lkA m.all k++[v])⟩,⟨y.sb,y.mb,y.kv,es',cs5,F'⟩,0,rfl,⟨rfl,hb8,by simpa using lcs5,hmb8,⟨.inl h.gs.1, .inl h.gs.2.1,hmb_ne,fun h=>(hF'sb _ h).1 rfl,fun h=>(hF'sb _ h).2 rfl⟩,fun b hb=>(hF'G b hb).imp id fun h=>⟨h,by have:=hF'lt b hb;omega⟩,fun b hb=>?_,((hpg3.no hm4).mod e3 (fun b hb h=>hF'u b hb b h rfl)).mod hm58 (fun b hb h=>h.elim (hF'sb b hb).1 (hF'sb b hb).2),h.cap,hE'.mono fun e a _ _ r=>⟨r.1,r.2.1.mod hm58 (fun b hb h=>h.elim (r.2.2 b hb).2.1 (r.2.2 b hb).2.2.1),fun b hb=>⟨(r.2.2 b hb).1.imp id fun h=>⟨h.1,by omega⟩,(r.2.2 b hb).2.1,(r.2.2 b hb).2.2.1,(r.2.2 b hb).2.2.2.2⟩⟩,hap' h.apart hfar⟩,?_,fun b hb=>hb.imp id fun h=>by omega, .inr (.inr ⟨.inr (by rw[hlast];exact heq),by have:=of_decide_eq_false hfull;omega,rfl,rfl,rfl,rfl,rfl, .inl ⟨hne,rfl⟩⟩)⟩
       ·rcases hb with hb|hb
        ·have:=h.lt b hb;omega
        ·exact hb.2
       ·exact((hms3.trans (hm4.mono (C:=G) fun _ _ h=>h.elim) (fun _ _ h=>h)).trans (e3.mono (C:=G) fun b _ h=>(hub b h).1) (fun _ _ h=>h)).trans (hm58.mono (C:=G) fun b _ h=>h.elim (fun e=>by rw[e];exact h1.gs.1) (fun e=>by rw[e];exact h1.gs.2.1)) (fun _ _ h=>h)
end
end Go.Proofs.Ytofohkdkpbigiaa
end
section
namespace Go.Proofs.Ytofohkdkpbigiaa
open Go.Am
set_option maxRecDepth 10000
set_option maxHeartbeats 1000000
set_option linter.unusedSimpArgs false
structure On (O:bj):Prop where
 page:Hx O
 put:O 60=none
 Put:O 37=none
 Del:O 36=none
 may:O 59=none
 last:O 75=none
 size:O 58=none
 scan:O 29=none
def Eg (l:List Ver):Bool:=match l.getLast? with
 |some x=>x.g
 |none=>true
def Nq (m:SM)(t:Int)(k w:Str)(m':SM)(e:Int):Prop:=(uu m t=false∧m'=m∧e=1)∨(uu m t=true∧Hq m k ⟨t,w,false⟩ m' e)
def NT (m:SM)(t:Int)(k:Str)(m':SM)(e:Int):Prop:=(uu m t=false∧m'=m∧e=1)∨(uu m t=true∧Eg (lkA m.all k)=true∧m'=m∧e=0)∨(uu m t=true∧Eg (lkA m.all k)=false∧Hq m k ⟨t,⟨0,0⟩,true⟩ m' e)
section
variable {O:bj}
theorem NW:X.fns.get 37=some Try.f37:=by kernel_rfl
theorem Of:X.fns.get 36=some Try.f36:=by kernel_rfl
theorem Dp {t:Int}{w:Str}:bz X 69 [(0, .int .i64 t),(1, .str w)]=some (.pure (.agg (vr ⟨t,w,false⟩))):=by
 simp only[bz,ki,sJ,cS,ay,aF,eC,cL,dc,AV.cells,dB,fB]
 rfl
theorem Ck {t:Int}:bz X 69 [(0, .int .i64 t),(2, .bool true)]=some (.pure (.agg (vr ⟨t,⟨0,0⟩,true⟩))):=by
 simp only[bz,ki,sJ,cS,ay,aF,eC,cL,dc,AV.cells,dB,fB]
 rfl
theorem Hg (ho:On O){s:St}{G:Nat→Prop}{p:AV}{m:SM}{y:Lay}(h:StR s G p m y)(hk:SOK m)(htd:Tidy s){t:Int}{k w:Str}:
  Ca X O (.fn 37) [p, .int .i64 t, .str k, .str w] s fun z=>∃s' G' m' y' e,z= .ret (.int .i64 e) s'∧StR s' G' p m' y'∧Am.Mod G s s'∧(∀b,G' b→G b∨s.nx≤b)∧Nq m t k w m' e:=by
 have hp:=h.ptr
 subst hp
 refine bb ho.Put NW rfl ?_
 unfold aD aD aD aD aD
 repeat(first|refine uS ?_ |refine aa rfl ?_ |refine ad (by simp(disch:=omega) only[uB,uT,qn du];exact rfl) ?_)
 refine uJ [0,1,2,3,10] ?_
 refine ae rfl rfl (fun hc=>?_) (fun hc=>?_)
 ·cases hc
 ·refine uG ?_
  refine aj (Bh ho.may h t) ?_ ?_
  ·rintro z s' e
   cases e
   refine uL ?_
   refine uH ?_
   refine uJ [0,1,2,3,14] ?_
   refine ae rfl rfl (fun hc=>?_) (fun hc=>?_)
   ·refine uG ?_
    refine ai rfl ?_
    exact⟨s,G,m,y,1,rfl,h,Mod.refl _ _,fun b hb=> .inl hb, .inl ⟨by simpa using hc,rfl,rfl⟩⟩
   ·repeat(first|refine uS ?_ |refine aa rfl ?_ |refine ad (by simp(disch:=omega) only[uB,uT,Dp];exact rfl) ?_)
    refine aj (B0 ho.page ho.put h hk htd (k:=k) (v:=⟨t,w,false⟩)) ?_ ?_
    ·rintro z s2 ⟨s2',G',m',y',e,e1,h1,h2,h3,h4⟩
     cases e1
     refine uL ?_
     refine uG ?_
     refine ai rfl ?_
     exact⟨s2,G',m',y',e,rfl,h1,h2,h3, .inr ⟨by simpa using hc,h4⟩⟩
    ·rintro z s' ⟨_,_,_,_,_,e,_⟩
     cases e
  ·rintro z s' e
   cases e
theorem G8 (ho:On O){s:St}{G:Nat→Prop}{p:AV}{m:SM}{y:Lay}(h:StR s G p m y)(hk:SOK m)(htd:Tidy s){t:Int}{k:Str}:
  Ca X O (.fn 36) [p, .int .i64 t, .str k] s fun z=>∃s' G' m' y' e,z= .ret (.int .i64 e) s'∧StR s' G' p m' y'∧Am.Mod G s s'∧(∀b,G' b→G b∨s.nx≤b)∧NT m t k m' e:=by
 obtain⟨c0,c1,c2,c3,c4⟩:=h.cell
 obtain⟨u,hu,hacc,hub,_,_⟩:=h.look k
 have hp:=h.ptr
 subst hp
 obtain⟨a,c,x,rfl,_⟩:=hacc.sli.ex
 rw[List.length_map] at hu hacc
 refine bb ho.Del Of rfl ?_
 unfold aD aD aD aD
 repeat(first|refine uS ?_ |refine aa rfl ?_ |refine ad (by simp(disch:=omega) only[uB,uT,qn du];exact rfl) ?_)
 refine uJ [0,1,2,9] ?_
 refine ae rfl rfl (fun hc=>?_) (fun hc=>?_)
 ·cases hc
 ·refine uG ?_
  refine aj (Bh ho.may h t) ?_ ?_
  ·rintro z s' e
   cases e
   refine uL ?_
   refine uH ?_
   refine uJ [0,1,2,13] ?_
   refine ae rfl rfl (fun hc=>?_) (fun hc=>?_)
   ·refine uG ?_
    refine ai rfl ?_
    exact⟨s,G,m,y,1,rfl,h,Mod.refl _ _,fun b hb=> .inl hb, .inl ⟨by simpa using hc,rfl,rfl⟩⟩
   ·have hmay:uu m t=true:=by simpa using hc
    have hlen:=hk.len k
    cases hl0:(lkA m.all k).length with
    |zero=>
     have hnil:lkA m.all k=[]:=List.eq_nil_of_length_eq_zero hl0
     rw[hl0] at hu
     have d0:decide (((0:Nat):Int)=0)=true:=by simp
     repeat(first|refine uS ?_ |refine aa rfl ?_ |refine ad (by simp(disch:=omega) only[uB,uT,bN,iz,Nat.zero_add,ah dz rfl dJ h.hsb c4,hu,d0,aP];exact rfl) ?_)
     refine uJ [0,1,2,31] ?_
     refine ae rfl rfl (fun hc=>?_) (fun hc=>?_)
     ·refine uG ?_
      refine ai rfl ?_
      exact⟨s,G,m,y,0,rfl,h,Mod.refl _ _,fun b hb=> .inl hb, .inr (.inl ⟨hmay,by rw[hnil];rfl,rfl,rfl⟩)⟩
     ·cases hc
    |succ n=>
     obtain⟨q,hq⟩:∃q,(lkA m.all k)[n]? =some q:=⟨_,List.getElem?_eq_getElem (by omega)⟩
     have hgone:Eg (lkA m.all k)=q.g:=by
      unfold Eg
      rw[List.getLast?_eq_getElem?,hl0,Nat.add_sub_cancel,hq]
     obtain⟨bq,tq,nq,xq,eq,hbqn,l1,l2,l3,l4,l5⟩:=zy hacc hq
     cases eq
     rw[hl0] at hu
     have hn1':((n+1:Nat):Int)- 1=((n:Nat):Int):=by omega
     have d0:decide (((n+1:Nat):Int)=0)=false:=by simp;omega
     rw[Nat.zero_add] at l4
     repeat(first|refine uS ?_ |refine aa rfl ?_ |refine ad (by simp(disch:=omega) only[uB,uT,bN,iz,Nat.zero_add,ah dz rfl dJ h.hsb c4,hu,d0,hn1',aQ iC eR,Int.toNat_natCast,Ek,ah mg rfl eC l1 l4];exact rfl) ?_)
     refine uJ [0,1,2,31] ?_
     refine ae rfl rfl (fun hc=>?_) (fun hc=>?_)
     ·refine uG ?_
      refine ai rfl ?_
      exact⟨s,G,m,y,0,rfl,h,Mod.refl _ _,fun b hb=> .inl hb, .inr (.inl ⟨hmay,by rw[hgone];simpa using hc,rfl,rfl⟩)⟩
     ·repeat(first|refine uS ?_ |refine aa rfl ?_ |refine ad (by simp(disch:=omega) only[uB,uT,Ck];exact rfl) ?_)
      refine aj (B0 ho.page ho.put h hk htd (k:=k) (v:=⟨t,⟨0,0⟩,true⟩)) ?_ ?_
      ·rintro z s2 ⟨s2',G',m',y',e,e1,h1,h2,h3,h4⟩
       cases e1
       refine uL ?_
       refine uG ?_
       refine ai rfl ?_
       exact⟨s2,G',m',y',e,rfl,h1,h2,h3, .inr (.inr ⟨hmay,by rw[hgone];simpa using hc,h4⟩)⟩
      ·rintro z s' ⟨_,_,_,_,_,e,_⟩
       cases e
  ·rintro z s' e
   cases e
end
end Go.Proofs.Ytofohkdkpbigiaa
end
section
namespace Go.Proofs.Ytofohkdkpbigiaa
open Go.Am
set_option maxRecDepth 10000
set_option maxHeartbeats 1000000
set_option linter.unusedSimpArgs false
def zG (l:List Ver)(t:Int):Nat→Str×Bool
 |0=>(⟨0,0⟩,false)
 |k+1=>match l[k]? with
  |some x=>if x.t≤t then(x.v, !x.g) else zG l t k
  |none=>zG l t k
def nE (l:List Ver)(t:Int):Str×Bool:=zG l t l.length
structure mZ (s s':St)(t:Int)(u:AV)(a:Str)(b:Bool)(lp:AB):Prop where
 mod:Am.Mod No s s'
 nx:s.nx+6≤s'.nx
 c0:Cell s' s.nx (.int .i64 t)
 c1:Cell s' (s.nx+1) (.str a)
 c2:Cell s' (s.nx+2) (.bool b)
 c3:Cell s' (s.nx+3) u
 d:s'.h.get (s.nx+4)=some .dfr
 l:s'.h.get (s.nx+5)=some lp
theorem mZ.lp {s s':St}{t:Int}{u:AV}{a:Str}{b:Bool}{lp lp':AB}(h:mZ s s' t u a b lp):mZ s {s' with h:=s'.h.put (s.nx+5) lp'} t u a b lp':=
 ⟨h.mod.put _ (.inl (by omega)) (by have:=h.nx;omega),h.nx,h.c0.put (by omega),h.c1.put (by omega),h.c2.put (by omega),h.c3.put (by omega),(aT (by omega)).trans h.d,bm⟩
theorem mZ.new {s s':St}{t:Int}{u:AV}{a:Str}{b:Bool}{lp x:AB}(h:mZ s s' t u a b lp):mZ s {s' with h:=s'.h.put s'.nx x,nx:=s'.nx+1} t u a b lp:=
 have hn:=h.nx
 ⟨h.mod.new _,by show _≤s'.nx+1;omega,h.c0.new (by omega),h.c1.new (by omega),h.c2.new (by omega),h.c3.new (by omega),(aT (by omega)).trans h.d,(aT (by omega)).trans h.l⟩
theorem mZ.put {s s':St}{t:Int}{u:AV}{a:Str}{b:Bool}{lp x:AB}{k:Nat}(h:mZ s s' t u a b lp)(hk:s.nx+6≤k)(hk2:k<s'.nx):mZ s {s' with h:=s'.h.put k x} t u a b lp:=
 ⟨h.mod.put _ (.inl (by omega)) hk2,h.nx,h.c0.put (by omega),h.c1.put (by omega),h.c2.put (by omega),h.c3.put (by omega),(aT (by omega)).trans h.d,(aT (by omega)).trans h.l⟩
theorem mZ.set {s s':St}{t:Int}{u:AV}{a a':Str}{b b':Bool}{lp x1 x2:AB}(h:mZ s s' t u a b lp)(k1:Cell {s' with h:=s'.h.put (s.nx+1) x1} (s.nx+1) (.str a'))(k2:Cell {s' with h:=(s'.h.put (s.nx+1) x1).put (s.nx+2) x2} (s.nx+2) (.bool b')):
  mZ s {s' with h:=(s'.h.put (s.nx+1) x1).put (s.nx+2) x2} t u a' b' lp:=by
 have hn:=h.nx
 have e:({s' with h:=(s'.h.put (s.nx+1) x1).put (s.nx+2) x2}:St)={({s' with h:=s'.h.put (s.nx+1) x1}:St) with h:=({s' with h:=s'.h.put (s.nx+1) x1}:St).h.put (s.nx+2) x2}:=rfl
 refine⟨(h.mod.put x1 (.inl (by omega)) (by omega)).put x2 (.inl (by omega)) (show s.nx+2<s'.nx by omega),hn,(h.c0.put (by omega)).put (by omega),k1.put (by omega),k2,(h.c3.put (by omega)).put (by omega),?_,?_⟩
 ·show((s'.h.put (s.nx+1) x1).put (s.nx+2) x2).get _=_
  rw[aT (by omega),aT (by omega)];exact h.d
 ·show((s'.h.put (s.nx+1) x1).put (s.nx+2) x2).get _=_
  rw[aT (by omega),aT (by omega)];exact h.l
theorem mZ.done {s s':St}{t:Int}{u:AV}{a:Str}{b:Bool}{lp:AB}(h:mZ s s' t u a b lp):
  Am.Mod No s {s' with h:=(s'.h.del (s.nx+5)).del (s.nx+4)}∧(s'.h.del (s.nx+5)).get (s.nx+4)=some .dfr∧Cell {s' with h:=(s'.h.del (s.nx+5)).del (s.nx+4)} (s.nx+1) (.str a)∧Cell {s' with h:=(s'.h.del (s.nx+5)).del (s.nx+4)} (s.nx+2) (.bool b):=
 ⟨(h.mod.del (by omega)).del (by omega),(jP (by omega)).trans h.d,(h.c1.del (b':=s.nx+5) (by omega)).del (by omega),(h.c2.del (b':=s.nx+5) (by omega)).del (by omega)⟩
section
variable {O:bj}
theorem M6:X.fns.get 10=some Try.f10:=by kernel_rfl
theorem Mc:X.fns.get 19=some Try.f19:=by kernel_rfl
theorem HZ:X.fns.get 38=some Try.f38:=by kernel_rfl
theorem E3 (ho:O 19=none){s:St}{a:Option (Nat×Nat×Nat)}{n c:Nat}{x:Bool}:
  Ca X O (.fn 19) [.slc a n c x] s fun z=>z= .ret (.func (.func 38) [] [.ptr (some (s.nx,0))]) {s with h:=s.h.put s.nx (.cells (Tr.of [.slc a n c x]) 1),nx:=s.nx+1}:=by
 refine bb ho Mc rfl ?_
 unfold aD aD
 refine uG ?_
 refine ai rfl ?_
 rfl
theorem MW {s:St}{v0 v1 v2:AV}:(fun s':St=>s'.nx=s.nx+3∧Am.Mod No s s'∧Cell s' s.nx v0∧Cell s' (s.nx+1) v1∧Cell s' (s.nx+2) v2) {h:=((s.h.put s.nx (.cells (Tr.of [v0]) 1)).put (s.nx+1) (.cells (Tr.of [v1]) 1)).put (s.nx+1+1) (.cells (Tr.of [v2]) 1),nx:=s.nx+1+1+1,gl:=s.gl,sh:=s.sh}:=by
 refine⟨rfl,(((Mod.refl _ s).new _).new _).new _,⟨Tr.of [v0],?_,by rw[ml];rfl⟩,⟨Tr.of [v1],?_,by rw[ml];rfl⟩,⟨Tr.of [v2],bm,by rw[ml];rfl⟩⟩
 ·show(((s.h.put s.nx _).put (s.nx+1) _).put (s.nx+1+1) _).get s.nx=_
  rw[aT (by omega),aT (by omega),bm]
 ·show(((s.h.put s.nx _).put (s.nx+1) _).put (s.nx+1+1) _).get (s.nx+1)=_
  rw[aT (by omega),bm]
theorem Kp {s s2:St}{t:Int}{u:AV}{a:Str}{b:Bool}{lp:AB}(hn:s2.nx=s.nx+4)(hm:Am.Mod No s s2)(w0:Cell s2 s.nx (.int .i64 t))(w1:Cell s2 (s.nx+1) (.str a))(w2:Cell s2 (s.nx+2) (.bool b))(w3:Cell s2 (s.nx+3) u):
  mZ s {h:=(s2.h.put (s.nx+4) .dfr).put (s.nx+4+1) lp,nx:=s.nx+4+1+1,gl:=s2.gl,sh:=s2.sh} t u a b lp:=by
 have e:({h:=(s2.h.put (s.nx+4) .dfr).put (s.nx+4+1) lp,nx:=s.nx+4+1+1,gl:=s2.gl,sh:=s2.sh}:St)={s2 with h:=(s2.h.put s2.nx .dfr).put (s2.nx+1) lp,nx:=s2.nx+1+1}:=by rw[hn]
 have cell:∀ {b:Nat} {v:AV},b<s.nx+4→Cell s2 b v→Cell {h:=(s2.h.put (s.nx+4) .dfr).put (s.nx+4+1) lp,nx:=s.nx+4+1+1,gl:=s2.gl,sh:=s2.sh} b v:=fun hb ⟨c,g1,g2⟩=>⟨c,by show((s2.h.put (s.nx+4) .dfr).put (s.nx+4+1) lp).get _=_;rw[aT (by omega),aT (by omega)];exact g1,g2⟩
 refine⟨by rw[e];exact(hm.new _).new _,Nat.le_refl _,cell (by omega) w0,cell (by omega) w1,cell (by omega) w2,cell (by omega) w3,?_,bm⟩
 show((s2.h.put (s.nx+4) .dfr).put (s.nx+4+1) lp).get _=_
 rw[aT (by omega),bm]
theorem FH {b m x:Nat}{c c':Tr AV}{q:Ver}{t0:Tr AB}{g:Tr (Tr AV)}{sh:List Nat}(hs:stL (vr q) 0 c=some c'):cK X 69 (.ptr (some (b,0))) (.agg (vr q)) {h:=t0.put b (.cells c m),nx:=x,gl:=g,sh:=sh}=some (.val (.tup []) {h:=(t0.put b (.cells c m)).put b (.cells c' m),nx:=x,gl:=g,sh:=sh}):=
 dC eR rfl rfl hs
theorem Ki:Str.of {data:= #[]}=⟨0,0⟩:=rfl
structure Lc (O:bj):Prop where
 get:O 10=none
 back:O 19=none
theorem vM (ho:Lc O){s:St}{G:Nat→Prop}{p:AV}{m:SM}{y:Lay}(h:StR s G p m y)(hk:SOK m){t:Int}{k:Str}:
  Ca X O (.fn 10) [p, .int .i64 t, .str k] s fun z=>∃s',z= .ret (.tup [.str (nE (lkA m.all k) t).1, .bool (nE (lkA m.all k) t).2]) s'∧Am.Mod No s s':=by
 obtain⟨c0,c1,c2,c3,c4⟩:=h.cell
 have hp:=h.ptr
 subst hp
 refine OM ho.get (Ic M6 rfl ?_)
 unfold aD aD aD aD
 (repeat(first|refine uS ?_ |refine aa rfl ?_));refine ad (by simp(disch:=omega) only[uB,uT,bQ z6 rfl,bQ HM rfl];exact rfl) ?_;(repeat(first|refine uS ?_ |refine aa rfl ?_))
 refine WL.st (fun s'=>s'.nx=s.nx+3∧Am.Mod No s s'∧Cell s' s.nx (.int .i64 t)∧Cell s' (s.nx+1) (.str ⟨0,0⟩)∧Cell s' (s.nx+2) (.bool false)) MW ?_
 rintro s1 ⟨hn1,hm1,q0,q1,q2⟩
 have h1:=h.mod hm1 (fun _ _ h=>h)
 obtain⟨u,hu,hacc,hub,_⟩:=h1.look k
 obtain⟨a,c,x,rfl,_⟩:=hacc.sli.ex
 rw[List.length_map] at hu hacc hub
 repeat(first|refine uS ?_ |refine aa rfl ?_ |refine ad (by simp(disch:=omega) only[uB,uT,qn du];exact rfl) ?_)
 refine uJ [0,2,4,6,7,11] ?_
 refine ae rfl rfl (fun hc=>?_) (fun hc=>?_)
 ·cases hc
 ·repeat(first|refine uS ?_ |refine aa rfl ?_ |refine ad (by simp(disch:=omega) only[uB,uT,iz,ah dz rfl dJ h1.hsb c4,Nat.zero_add,hu];exact rfl) ?_)
  refine aj (E3 ho.back) ?_ ?_
  ·rintro z s2 e
   cases e
   refine uL ?_
   refine uH ?_
   refine uJ [4,6,7,18] ?_
   refine WL.st (fun s'=>s'.nx=s.nx+4∧Am.Mod No s s'∧Cell s' s.nx (.int .i64 t)∧Cell s' (s.nx+1) (.str ⟨0,0⟩)∧Cell s' (s.nx+2) (.bool false)∧Cell s' (s.nx+3) (.slc a (lkA m.all k).length c x)) ⟨by show s1.nx+1=_;rw[hn1],hm1.new _,q0.new (by omega),q1.new (by omega),q2.new (by omega),⟨_,by rw[←hn1];exact bm,by rw[ml];rfl⟩⟩ ?_
   rintro s2 ⟨hn2,hm2,w0,w1,w2,w3⟩
   simp only[hn1]
   refine G4 rfl rfl ?_
   intro tt ht
   simp only[Nat.add_assoc,Nat.reduceAdd] at ht
   simp only[hn2,List.nil_append]
   refine CW.st (fun s3=>mZ s s3 t (.slc a (lkA m.all k).length c x) ⟨0,0⟩ false _) (Kp hn2 hm2 w0 w1 w2 w3) ?_
   rintro s3 hg
   have hlen:=hk.len k
   refine OW HZ rfl ?_
   unfold aD aD aD
   repeat(first|refine uS ?_ |refine aa rfl ?_ |refine ad (by simp(disch:=omega) only[uB,uT,hg.c3.load iC rfl yY];exact rfl) ?_)
   have hacc0:=hacc.back hm1 fun b hb=>h.lt b (hub b hb).1
   generalize hvl:lkA m.all k=vl at*
   generalize hlp:(AB.loop tt _ _ _ _)=lp at hg
   let I:Nat→Sl→St→Prop:=fun j L s'=>mZ s s' t (.slc a vl.length c x) ⟨0,0⟩ false lp∧j≤vl.length∧zG vl t j=nE vl t∧L=[(0, .yld (s.nx+4+1)),(1, .ptr (some (s.nx+3,0))),(3, .int .i64 ((j:Int)- 1))]
   refine WL.less (M:=[(0, .yld (s.nx+4+1)),(1, .ptr (some (s.nx+3,0))),(3, .int .i64 ((vl.length:Int)- 1))]) ?_ rfl
   refine aV I (fun j=>j) ?_ vl.length vl.length _ s3 (Nat.le_refl _) ⟨hg,Nat.le_refl _,rfl,rfl⟩
   rintro j L s4 ⟨hg4,hj,hgk,rfl⟩
   refine uG ?_
   refine uJ [0,1,3,8] ?_
   refine ae rfl rfl (fun hc2=>?_) (fun hc2=>?_)
   ·simp at hc2
    obtain⟨i,rfl⟩:∃i,j=i+1:=⟨j- 1,by omega⟩
    have hi1:((i+1:Nat):Int)- 1=(i:Int):=by omega
    obtain⟨q,hq⟩:∃q,vl[i]? =some q:=⟨_,List.getElem?_eq_getElem (by omega)⟩
    obtain⟨bq,tq,nq,xq,eq,hbqn,l1,l2,l3,l4,l5⟩:=zy (hacc0.mod hg4.mod (fun _ _ h=>h)) hq
    cases eq
    simp only[hi1]
    have hround:Ca X O (.rnd (s.nx+4+1)) [.int .i64 (i:Int), .agg (vr q)] s4 fun z=>(q.t≤t∧∃s5 ac bd,z= .ret (.bool false) s5∧mZ s s5 t (.slc (some (bq,0,3)) vl.length vl.length x) q.v (!q.g) (.loop tt [19,20] ac bd (.done .ret)))∨(¬q.t≤t∧∃s5,z= .ret (.bool true) s5∧mZ s s5 t (.slc (some (bq,0,3)) vl.length vl.length x) ⟨0,0⟩ false lp):=by
     subst hlp
     refine Oh hg4.l ht rfl ?_
     unfold Fw Fw Fw
     obtain⟨c4,hc4,g4⟩:=ej (cs:=vr q) (zs:=[.int .i64 0, .str ⟨0,0⟩, .bool false]) rfl
     (repeat(first|refine uS ?_ |refine aa rfl ?_));refine ad (by simp(disch:=omega) only[uB,uT,bQ sJ rfl,AV.cells,FH hc4];exact rfl) ?_;(repeat(first|refine uS ?_ |refine aa rfl ?_))
     refine Fin.st (fun s'=>mZ s s' t _ ⟨0,0⟩ false _∧s'.h.get s4.nx=some (.cells c4 3)∧s4.nx<s'.nx) ⟨hg4.new.put hg4.nx (Nat.lt_succ_self _),bm,Nat.lt_succ_self _⟩ ?_
     rintro s5 ⟨hg5,hc5,hn5⟩
     refine NQ hg5.l ?_
     have:=hg4.nx
     refine WL.st (fun s'=>mZ s s' t _ ⟨0,0⟩ false _∧s'.h.get s4.nx=some (.cells c4 3)) ⟨hg5.lp,(aT (by omega)).trans hc5⟩ ?_
     rintro s6 ⟨hg6,hc6⟩
     have z0:=g4 0 _ rfl
     have z1:=g4 1 _ rfl
     have z2:=g4 2 _ rfl
     repeat(first|refine uS ?_ |refine aa rfl ?_ |refine ad (by simp(disch:=omega) only[uB,uT,pO,ah aN rfl ay hc6 z0,hg6.c0.load aN rfl ay];exact rfl) ?_)
     refine uJ [4,6,7,9,24] ?_
     refine ae rfl rfl (fun hc3=>?_) (fun hc3=>?_)
     ·simp at hc3
      refine uH ?_
      obtain⟨x1,e1,k1⟩:=hg6.c1.store aF (w:= .str q.v) rfl rfl
      obtain⟨x2,e2,k2⟩:=(hg6.c2.put (b':=s.nx+1) (x:=x1) (by omega)).store eC (w:= .bool (!q.g)) rfl rfl
      have hc7:({s6 with h:=s6.h.put (s.nx+1) x1}:St).h.get s4.nx=some (.cells c4 3):=(aT (by omega)).trans hc6
      refine aU [(0,none),(1,none),(2,none),(3,none),(4,none),(5,some [true,true,true,false,false]),(6,some [false,false,false])] (by kernel_rfl) (by kernel_rfl) (by simp(disch:=omega) only[uB,uT,Nat.reduceEqDiff,↓reduceIte,uD,mask,aC,aB,MJ,Ek,Nat.zero_add,ah aE rfl aF hc6 z1,ah mg rfl eC hc6 z2,ah aE rfl aF hc7 z1,ah mg rfl eC hc7 z2,e1,e2];exact rfl) ?_
      refine uH ?_
      have hg8:=hg6.set k1 k2
      refine Bb hg8.l ?_
      exact .inl ⟨hc3,_,_,_,rfl,hg8.lp⟩
     ·simp at hc3
      refine uH ?_
      refine zh hg6.l ?_
      exact .inr ⟨by omega,_,rfl,hg6.lp⟩
    repeat(first|refine uS ?_ |refine aa rfl ?_ |refine ad (by simp(disch:=omega) only[uB,uT,hg4.c3.load iC rfl yY,aQ iC eR,cE ki rfl eR l1 (Nat.zero_add _▸l5),Int.toNat_natCast,Nat.zero_add];exact rfl) ?_)
    refine aj (hround) ?_ ?_
    ·rintro z s5 (⟨hqt,s5',ac,bd,e,hg5⟩|⟨hqt,s5',e,hg5⟩)
     ·cases e
      refine uL ?_
      refine uH ?_
      refine uJ [0,1,3,18] ?_
      refine ae rfl rfl (fun hc3=>?_) (fun hc3=>?_)
      ·refine uH ?_
       refine ai rfl ?_
       refine Ga ht hg5.l rfl ?_
       refine uH ?_
       have hg6:=hg5.done
       refine yA rfl (BZ hg6.2.1) rfl rfl ((hg6.2.2.1).load aE rfl aF) ((hg6.2.2.2).load mg rfl eC) ?_
       refine⟨_,?_,hg6.1⟩
       rw[←hgk]
       simp only[zG,hq,if_pos hqt]
      ·cases hc3
     ·cases e
      refine uL ?_
      refine uH ?_
      refine uJ [0,1,3,18] ?_
      refine ae rfl rfl (fun hc3=>?_) (fun hc3=>?_)
      ·cases hc3
      ·refine uG ?_
       have hgi:zG vl t i=nE vl t:=by rw[←hgk];simp only[zG,hq,if_neg hqt]
       exact aH i [(0, .yld (s.nx+4+1)),(1, .ptr (some (s.nx+3,0))),(3, .int .i64 ((i:Int)- 1))] ⟨hg5,by omega,hgi,rfl⟩ (by simp) (by simp[aI,az])
    ·rintro z s' (⟨_,_,_,_,e,_⟩|⟨_,_,e,_⟩)<;>cases e
   ·simp at hc2
    have hj0:j=0:=by omega
    subst hj0
    refine uH ?_
    refine sG rfl ?_
    subst hlp
    refine F0 ht hg4.l ?_
    refine uH ?_
    obtain⟨x1,e1,k1⟩:=(hg4.c1.del (b':=s.nx+5) (by omega)).store aF (w:= .str ⟨0,0⟩) rfl rfl
    obtain⟨x2,e2,k2⟩:=((hg4.c2.del (b':=s.nx+5) (by omega)).put (b':=s.nx+1) (x:=x1) (by omega)).store eC (w:= .bool false) rfl rfl
    simp only[Nat.add_assoc,Nat.reduceAdd]
    have hn4:=hg4.nx
    (repeat(first|refine uS ?_ |refine aa rfl ?_));refine ad (by simp(disch:=omega) only[uB,uT,Ki,e1,e2];exact rfl) ?_;(repeat(first|refine uS ?_ |refine aa rfl ?_))
    refine uH ?_
    refine yA rfl (BZ ((aT (by omega)).trans ((aT (by omega)).trans ((jP (by omega)).trans hg4.d)))) rfl rfl (((k1.put (b':=s.nx+2) (x:=x2) (by omega)).del (b':=s.nx+4) (by omega)).load aE rfl aF) ((k2.del (b':=s.nx+4) (by omega)).load mg rfl eC) ?_
    refine⟨_,?_,(((hg4.mod.del (b:=s.nx+5) (by omega)).put x1 (b:=s.nx+1) (.inl (by omega)) (by show _<s4.nx;omega)).put x2 (b:=s.nx+2) (.inl (by omega)) (by show _<s4.nx;omega)).del (b:=s.nx+4) (by omega)⟩
    rw[←hgk]
    rfl
  ·rintro z s' e
   cases e
end
end Go.Proofs.Ytofohkdkpbigiaa
end
