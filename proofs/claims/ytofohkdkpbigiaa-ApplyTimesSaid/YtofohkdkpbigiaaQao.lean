/-
  A part of the texts.
-/
import Derived.Test.YtofohkdkpbigiaaQan
section
namespace Go.Proofs.Ytofohkdkpbigiaa
open Go.Am
set_option maxRecDepth 10000
set_option maxHeartbeats 1000000
set_option linter.unusedSimpArgs false
section
variable {O:bk}
theorem GP:X.fns.get 78=some Try.f78:=by kernel_rfl
theorem FJ:X.fns.get 86=some Try.f86:=by kernel_rfl
theorem Jz:X.fns.get 85=some Try.f85:=by kernel_rfl
theorem Lf:X.fns.get 93=some Try.f93:=by kernel_rfl
theorem Fz (ho:O 93=none){s:St}{v b1 b2:AV}{f:FuncId}{qs:List (Str×Str)}{P:Str×Str→Bool}(hs:Sli s v 2 (qs.map pr))(hl:qs.length≤100000)
  (hf:∀s' q,Am.Mod No s s'→Ca X O (.fn f) [.agg (pr q),b1,b2] s' fun z=>∃s2,z= .ret (.bool (P q)) s2∧Am.Mod No s' s2):
  Ca X O (.fn 93) [v, .func (.func f) [] [b1,b2]] s fun z=>∃k s',z= .ret (.int .i64 k) s'∧decide (0≤k)=qs.any P∧Am.Mod No s s':=by
 obtain⟨a,c,x,rfl,_⟩:=hs.ex
 rw[List.length_map] at hs
 refine aZ ho Lf rfl ?_
 unfold aB aB aB
 rw[List.length_map]
 refine uG ?_
 let I:Nat→Sl→St→Prop:=fun i L s'=>Am.Mod No s s'∧i≤qs.length∧(qs.take i).any P=false∧L=[(0, .slc a qs.length c x),(1, .func (.func f) [] [b1,b2]),(7, .int .i64 (qs.length:Int)),(8, .int .i64 (i:Int))]
 refine WL.less (M:=[(0, .slc a qs.length c x),(1, .func (.func f) [] [b1,b2]),(7, .int .i64 (qs.length:Int)),(8, .int .i64 ((0:Nat):Int))]) ?_ rfl
 refine bm I (fun i=>qs.length- i) ?_ qs.length 0 _ s (by simp) ⟨Mod.refl _ _,Nat.zero_le _,rfl,rfl⟩
 rintro i L s1 ⟨hm1,hi,hno,rfl⟩
 refine uG ?_
 refine uJ [0,1,7,8,9] ?_
 refine ae rfl rfl (fun hc2=>?_) (fun hc2=>?_)
 ·simp at hc2
  obtain⟨q,hq⟩:∃q,qs[i]? =some q:=⟨_,List.getElem?_eq_getElem (by omega)⟩
  obtain⟨b5,off5,t5,n5,c5,x5,e5,k1,k2,k3,k4⟩:=mE (hs.mod hm1 (fun _ _ h=>h)) hq
  cases e5
  repeat(first|refine uS ?_ |refine aa rfl ?_ |refine ad (by simp(disch:=omega) only[uB,uT,aT bF bX,cG py rfl bX k1 k4,Int.toNat_natCast];exact rfl) ?_)
  refine au (hf s1 q hm1) ?_ ?_
  ·rintro z s2 ⟨s2',e,hm2⟩
   cases e
   have hm12:=hm1.trans hm2 (fun _ _ h=>h)
   refine uL ?_
   refine uH ?_
   refine uJ [0,1,5,7,8,16] ?_
   refine ae rfl rfl (fun hc3=>?_) (fun hc3=>?_)
   ·refine uG ?_
    refine ai rfl ?_
    refine⟨_,s2,rfl,?_,hm12⟩
    have:qs.any P=true:=List.any_eq_true.mpr ⟨q,List.mem_of_getElem? hq,hc3⟩
    rw[this]
    simp
   ·refine uG ?_
    refine aM (i+1) [(0, .slc (some (b5,off5,2)) qs.length c x),(1, .func (.func f) [] [b1,b2]),(7, .int .i64 (qs.length:Int)),(8, .int .i64 ((i+1:Nat):Int))] ⟨hm12,by omega,?_,rfl⟩ (by show qs.length- (i+1)<qs.length- i;omega) (by simp[aI,aD])
    rw[List.take_add_one,hq,List.any_append,hno]
    simp[hc3]
  ·rintro z s' ⟨_,e,_⟩
   cases e
 ·simp at hc2
  have:i=qs.length:=by omega
  subst this
  refine uG ?_
  refine ai rfl ?_
  refine⟨_,s1,rfl,?_,hm1⟩
  rw[List.take_length] at hno
  rw[hno]
  rfl
theorem Fg (hc:O 85=none)(ho:O 93=none){s:St}{v b1 b2:AV}{f:FuncId}{qs:List (Str×Str)}{P:Str×Str→Bool}(hs:Sli s v 2 (qs.map pr))(hl:qs.length≤100000)
  (hf:∀s' q,Am.Mod No s s'→Ca X O (.fn f) [.agg (pr q),b1,b2] s' fun z=>∃s2,z= .ret (.bool (P q)) s2∧Am.Mod No s' s2):
  Ca X O (.fn 85) [v, .func (.func f) [] [b1,b2]] s fun z=>∃s',z= .ret (.bool (qs.any P)) s'∧Am.Mod No s s':=by
 refine aZ hc Jz rfl ?_
 unfold aB aB aB
 refine uG ?_
 refine au (Fz ho hs hl hf) ?_ ?_
 ·rintro z s1 ⟨k,s1',e,h1,h2⟩
  cases e
  refine uL ?_
  refine uG ?_
  refine ai rfl ?_
  refine⟨s1,?_,h2⟩
  rw[←h1];rfl
 ·rintro z s' ⟨_,_,e,_⟩
  cases e
structure Cb (O:bk):Prop where
 scan:O4 O
 last:O 75=none
 since:O 78=none
 since1:O 86=none
 has:O 85=none
 idx:O 93=none
theorem BG (ho:Cb O){s:St}{G:Nat→Prop}{p:AV}{m:SM}{y:Lay}(h:StR s G p m y)(hk:SOK m){t:Int}{b1 b2:Nat}{q:Str×Str}(h1:Cell s b1 p)(h2:Cell s b2 (.int .i64 t))(l1:b1<s.nx)(l2:b2<s.nx):
  Ca X O (.fn 86) [.agg (pr q), .ptr (some (b1,0)), .ptr (some (b2,0))] s fun z=>∃s',z= .ret (.bool (decide (t<fU (lkA m.all q.1)))) s'∧Am.Mod No s s':=by
 have hp:=h.ptr
 subst hp
 refine aZ ho.since1 FJ rfl ?_
 unfold aB aB aB aB
 (repeat(first|refine uS ?_ |refine aa rfl ?_));refine ad (by simp(disch:=omega) only[uB,uT,da (cs:=pr q) rfl];exact rfl) ?_;(repeat(first|refine uS ?_ |refine aa rfl ?_))
 refine WL.st (fun s'=>Am.Mod No s s'∧s'.h.get s.nx=some (.cells (Tr.of (pr q)) 2)) ⟨(Mod.refl _ s).new _,bu⟩ ?_
 rintro s1 ⟨hm1,hc1⟩
 have cell:∀ {b:Nat} {v:AV} {s2:St},Am.Mod No s s2→b<s.nx→Cell s b v→Cell s2 b v:=fun hm hb ⟨c,g1,g2⟩=>⟨c,(hm.old _ hb (fun h=>h)).trans g1,g2⟩
 have g0:(Tr.of (pr q)).get 0=some (.str q.1):=by rw[lK];rfl
 have k1:=cell hm1 l1 h1
 have k2:=cell hm1 l2 h2
 have h3:=h.mod hm1 (fun _ _ h=>h)
 have hlen:=hk.len q.1
 refine aV [(0,none),(1,none),(2,none),(4,none),(3,some [true,false,true,false]),(5,none),(6,some [false,false,false])] (by kernel_rfl) (by kernel_rfl) (by simp(disch:=omega) only[uB,uT,Nat.reduceEqDiff,↓reduceIte,uD,mask,aC,aA,k1.load dw rfl dp,eO,aj aE rfl aF hc1 g0,k2.load aJ rfl ay];exact rfl) ?_
 refine cH (xQ ho.last h3 q.1 (by omega)) ?_ ?_
 ·rintro z s2 e
  cases e
  refine⟨_,(by simp(disch:=omega) only[uB,uT,Nat.reduceEqDiff,↓reduceIte,uE,aC,aA,k1.load dw rfl dp,eO,aj aE rfl aF hc1 g0,k2.load aJ rfl ay];exact rfl),?_⟩
  refine uH ?_
  refine ai rfl ?_
  exact⟨s1,rfl,hm1⟩
 ·rintro z s' e
  cases e
theorem MU {s:St}{v0 v1:AV}:(fun s':St=>s'.nx=s.nx+2∧Am.Mod No s s'∧Cell s' s.nx v0∧Cell s' (s.nx+1) v1) {h:=(s.h.put s.nx (.cells (Tr.of [v0]) 1)).put (s.nx+1) (.cells (Tr.of [v1]) 1),nx:=s.nx+1+1,gl:=s.gl,sh:=s.sh}:=by
 refine⟨rfl,((Mod.refl _ s).new _).new _,⟨Tr.of [v0],?_,by rw[lK];rfl⟩,⟨Tr.of [v1],bu,by rw[lK];rfl⟩⟩
 show((s.h.put s.nx _).put (s.nx+1) _).get s.nx=_
 rw[aS (by omega),bu]
def ka (m:SM)(lo hi:Str)(t:Int):Bool:=(m.ps.flatten.filter (inK lo hi)).any fun q=>decide (t<fU (lkA m.all q.1))
theorem Dk (ho:Cb O){s:St}{G:Nat→Prop}{p:AV}{m:SM}{y:Lay}(h:StR s G p m y)(hk:SOK m){t:Int}{lo hi:Str}:
  Ca X O (.fn 78) [p, .str lo, .str hi, .int .i64 t] s fun z=>∃s',z= .ret (.bool (ka m lo hi t)) s'∧Am.Mod No s s':=by
 obtain⟨c0,c1,c2,c3,c4⟩:=h.cell
 have hp:=h.ptr
 subst hp
 obtain⟨a,c,x,hkv⟩:=h.pg.slc
 rw[hkv] at c3
 have hpg:=h.pg
 have hcap:=h.cap
 rw[hkv] at hpg hcap
 have hpl:=hk.L8
 have hlen:y.es.length=m.ps.flatten.length:=by rw[h.hes.len,hk.num]
 refine aZ ho.since GP rfl ?_
 unfold aB aB aB aB aB
 (repeat(first|refine uS ?_ |refine aa rfl ?_));refine ad (by simp(disch:=omega) only[uB,uT];exact rfl) ?_;(repeat(first|refine uS ?_ |refine aa rfl ?_))
 refine WL.st (fun s':St=>s'.nx=s.nx+2∧Am.Mod No s s'∧Cell s' s.nx (.ptr (some (y.sb,0)))∧Cell s' (s.nx+1) (.int .i64 t)) MU ?_
 rintro s1 ⟨hn1,hm1,k1,k2⟩
 have h1:=h.mod hm1 (fun _ _ h=>h)
 repeat(first|refine uS ?_ |refine aa rfl ?_ |refine ad (by simp(disch:=omega) only[uB,uT,k1.load dw rfl dp,sc dw];exact rfl) ?_)
 refine uJ [1,2,4,7,10] ?_
 refine ae rfl rfl (fun hc=>?_) (fun hc=>?_)
 ·cases hc
 ·refine uH ?_
  refine aV [(0,none),(1,none),(2,none),(3,none),(4,none),(5,none),(6,none),(7,none),(8,none),(9,none),(10,none),(12,none),(11,some [true,false,true,true,true,true,false,false,false,true,true,true]),(13,some [false,true,true,true,true,true,true,true]),(14,some [false,false,false,false,false,false,false])] (by kernel_rfl) (by kernel_rfl) (by simp(disch:=omega) only[uB,uT,Nat.reduceEqDiff,↓reduceIte,uD,mask,aC,aA,k1.load dw rfl dp,bN,q6,jA,Nat.zero_add,aj bU rfl jC h1.hsb c3,aj ej rfl dZ h1.hsb c4,yW ej h1.hmb];exact rfl) ?_
  refine cH (xC ho.scan.page ho.scan.pscan (hpg.mod hm1 (fun _ _ h=>h)) (fun b hb=>h1.lt b (h1.fg b hb)) hcap hk.rt (by omega) (by omega) (lo:=lo) (hi:=hi) (n:=y.es.length) (by omega)) ?_ ?_
  ·rintro z s2 ⟨u,s2',e,hm2,hacc2,hub2⟩
   cases e
   have hm12:=hm1.trans hm2 (fun _ _ h=>h)
   have h2:=h.mod hm12 (fun _ _ h=>h)
   have cell:∀ {b:Nat} {v:AV} {s3:St},Am.Mod No s1 s3→b<s1.nx→Cell s1 b v→Cell s3 b v:=fun hm hb ⟨c,g1,g2⟩=>⟨c,(hm.old _ hb (fun h=>h)).trans g1,g2⟩
   have w1:=cell hm2 (by omega) k1
   have w2:=cell hm2 (by omega) k2
   obtain⟨a1,c1',x1,rfl,_⟩:=hacc2.sli.ex
   refine⟨_,(by simp(disch:=omega) only[uB,uT,Nat.reduceEqDiff,↓reduceIte,uE,aC,aA,w1.load dw rfl dp,bN,q6,jA,Nat.zero_add,aj bU rfl jC h2.hsb c3,aj ej rfl dZ h2.hsb c4,yW ej h2.hmb];exact rfl),?_⟩
   refine cH (Fg (P:=fun q=>decide (t<fU (lkA m.all q.1))) ho.has ho.idx hacc2.sli (Nat.le_trans (List.length_filter_le _ _) (by omega)) (fun s' q hm=>BG ho (h2.mod hm (fun _ _ h=>h)) hk (cell (hm2.trans hm (fun _ _ h=>h)) (by omega) k1) (cell (hm2.trans hm (fun _ _ h=>h)) (by omega) k2) (by have:=hm2.nx;have:=hm.nx;omega) (by have:=hm2.nx;have:=hm.nx;omega))) ?_ ?_
   ·rintro z s3 ⟨s3',e,hm3⟩
    cases e
    have hm23:=hm2.trans hm3 (fun _ _ h=>h)
    have w1':=cell hm23 (by omega) k1
    have h3:=h2.mod hm3 (fun _ _ h=>h)
    refine⟨_,(by simp(disch:=omega) only[uB,uT,Nat.reduceEqDiff,↓reduceIte,uE,aC,aA,w1'.load dw rfl dp,bN,q6,jA,Nat.zero_add,aj bU rfl jC h3.hsb c3,aj ej rfl dZ h3.hsb c4,yW ej h3.hmb];exact rfl),?_⟩
    refine uH ?_
    refine ai rfl ?_
    exact⟨s3,rfl,hm12.trans hm3 (fun _ _ h=>h)⟩
   ·rintro z s' ⟨_,e,_⟩
    cases e
  ·rintro z s' ⟨_,_,e,_⟩
   cases e
end
end Go.Proofs.Ytofohkdkpbigiaa
end
section
namespace Go.Proofs.Ytofohkdkpbigiaa
open Go.Am
set_option maxRecDepth 10000
set_option maxHeartbeats 1000000
set_option linter.unusedSimpArgs false
section
variable {O:bk}
theorem NR:X.fns.get 16=some Try.f16:=by kernel_rfl
theorem HO {s:St}:nI s=some (.val (.map (some s.nx)) {s with h:=s.h.put s.nx (.map []),nx:=s.nx+1}):=rfl
def zP (n:Int):SM:=⟨n,0,0,[],[]⟩
theorem EA {n:Int}(h0:0≤n)(h1:n≤4096):SOK (zP n):=by
 refine⟨⟨fun p hp=>?_,fun p hp=>?_,?_⟩,fun k=>?_,fun a ha=>?_,rfl,?_,⟨Int.le_refl _,h0⟩,h1,fun a ha=>?_,fun a ha=>?_⟩
 ·cases hp
 ·cases hp
 ·exact List.Pairwise.nil
 ·simp[zP,lkA]
 ·cases ha
 ·exact List.Pairwise.nil
 ·cases ha
 ·cases ha
theorem Bq {n:Int}{b:Nat}:bf X 73 [(0, .int .i64 n),(4, .map (some b))]=some (.pure (.agg [.int .i64 n, .int .i64 0, .int .i64 0, .slc none 0 0 true, .map (some b)])):=by
 simp only[bf,qJ,DC,cI,ay,jC,dZ,bZ,cO,AV.cells,db,eL]
 rfl
theorem I3 (ho:O 16=none){s:St}{n:Int}(h0:1≤n)(h1:n≤4096):
  Ca X O (.fn 16) [.int .i64 n] s fun z=>∃p s' G y,z= .ret (.tup [p, .int .i64 0]) s'∧StR s' G p (zP n) y∧Am.Mod No s s'∧∀b,G b→s.nx≤b:=by
 refine aZ ho NR rfl ?_
 unfold aB aB
 have d1:decide (n<1)=false:=by simpa using h0
 have d2:decide ((4096:Int)<n)=false:=by simpa using h1
 repeat(first|refine uS ?_ |refine aa rfl ?_ |refine ad (by simp(disch:=omega) only[uB,uT,d1,d2];exact rfl) ?_)
 refine uJ [0,9] ?_
 refine ae rfl rfl (fun hc=>?_) (fun hc=>?_)
 ·cases hc
 ·have hbx:∀ {s':St},dS (.agg [.int .i64 n, .int .i64 0, .int .i64 0, .slc none 0 0 true, .map (some s.nx)]) s'=some (.val (.ptr (some (s'.nx,0))) {s' with h:=s'.h.put s'.nx (.cells (Tr.of [.int .i64 n, .int .i64 0, .int .i64 0, .slc none 0 0 true, .map (some s.nx)]) 5),nx:=s'.nx+1}):=da rfl
  (repeat(first|refine uS ?_ |refine aa rfl ?_));refine ad (by simp(disch:=omega) only[uB,uT,HO,Bq,hbx];exact rfl) ?_;(repeat(first|refine uS ?_ |refine aa rfl ?_))
  refine ai rfl ?_
  refine⟨_,_,fun b=>b=s.nx∨b=s.nx+1,⟨s.nx+1,s.nx, .slc none 0 0 true,[],Tr.of [.int .i64 n, .int .i64 0, .int .i64 0, .slc none 0 0 true, .map (some s.nx)],fun _=>False⟩,rfl,?_,((Mod.refl _ s).new _).new _,fun b hb=>by rcases hb with rfl|rfl<;>omega⟩
  refine⟨rfl,bu,jt rfl rfl,?_,⟨.inr rfl, .inl rfl,by simp,fun h=>h,fun h=>h⟩,fun b hb=>hb.elim,fun b hb=>?_,⟨[],rfl,⟨none,0,true,rfl,fun h=>absurd rfl h⟩,fun b hb=>(by cases hb),fun i u p hu _=>(by simp at hu)⟩,?_,trivial,List.Pairwise.nil⟩
  ·show((s.h.put s.nx _).put (s.nx+1) _).get s.nx=_
   rw[aS (by omega),bu]
  ·show b<s.nx+1+1
   rcases hb with rfl|rfl<;>omega
  ·intro a n c x e
   cases e;exact Nat.le_refl _
end
end Go.Proofs.Ytofohkdkpbigiaa
end
section
namespace Go.Proofs.Ytofohkdkpbigiaa
open Go.Am
theorem yR {k:Str}{vs:List Ver}:∀ {al:Al},lkA (iH al k vs) k=vs
 |[]=>by simp only[iH,lkA,Str.gj]
 |(a,ws)::al=>by
  simp only[iH]
  cases hb:k.beq a with
  |true=>simp only[lkA,hb]
  |false=>simp only[lkA,hb];exact yR
theorem HI {k k':Str}{vs:List Ver}(hn:k'≠k):∀ {al:Al},lkA (iH al k vs) k'=lkA al k'
 |[]=>by simp only[iH,lkA,Str.beq_false.mpr hn]
 |(a,ws)::al=>by
  simp only[iH]
  cases hb:k.beq a with
  |true=>
   have:=Str.o8 hb
   subst this
   simp only[lkA,Str.beq_false.mpr hn]
  |false=>
   simp only[lkA]
   cases k'.beq a with
   |true=>rfl
   |false=>exact HI hn
theorem mem_set {k:Str}{vs:List Ver}{a:Str×List Ver}:∀ {al:Al},a∈iH al k vs→a=(k,vs)∨a∈al
 |[],h=> .inl (List.mem_singleton.mp h)
 |(b,ws)::al,h=>by
  simp only[iH] at h
  cases hb:k.beq b with
  |true=>
   have:=Str.o8 hb
   subst this
   simp only[hb] at h
   rcases List.mem_cons.mp h with rfl|h
   ·exact .inl rfl
   ·exact .inr (List.mem_cons_of_mem _ h)
  |false=>
   simp only[hb] at h
   rcases List.mem_cons.mp h with rfl|h
   ·exact .inr List.mem_cons_self
   ·exact(mem_set h).imp id (List.mem_cons_of_mem _)
theorem Eo {k:Str}{vs:List Ver}:∀ {al:Al},(∀a∈al,a.2≠[])→lkA al k=[]→(iH al k vs).length=al.length+1
 |[],_,_=>rfl
 |(b,ws)::al,h,h0=>by
  simp only[lkA] at h0
  simp only[iH]
  cases hb:k.beq b with
  |true=>simp only[hb] at h0;exact absurd h0 (h _ List.mem_cons_self)
  |false=>
   simp only[hb] at h0
   simp only[List.length_cons]
   rw[Eo (fun a ha=>h a (List.mem_cons_of_mem _ ha)) h0]
theorem uO {k:Str}{vs:List Ver}:∀ {al:Al},lkA al k≠[]→(iH al k vs).length=al.length
 |[],h0=>absurd rfl h0
 |(b,ws)::al,h0=>by
  simp only[lkA] at h0
  simp only[iH]
  cases hb:k.beq b with
  |true=>rfl
  |false=>
   simp only[hb] at h0
   simp only[List.length_cons]
   rw[uO h0]
theorem vw {k:Str}{vs:List Ver}:∀ {al:Al},al.Pairwise (fun a b=>a.1≠b.1)→(iH al k vs).Pairwise fun a b=>a.1≠b.1
 |[],_=>List.pairwise_singleton _ _
 |(b,ws)::al,h=>by
  obtain⟨h1,h2⟩:=List.pairwise_cons.mp h
  simp only[iH]
  cases hb:k.beq b with
  |true=>exact List.pairwise_cons.mpr ⟨h1,h2⟩
  |false=>
   refine List.pairwise_cons.mpr ⟨fun a ha=>?_,vw h2⟩
   rcases mem_set ha with rfl|ha
   ·exact fun e2=>by simp only at e2;subst e2;rw[Str.gj] at hb;cases hb
   ·exact h1 a ha
theorem zh {k:Str}:∀ {al:Al},lkA al k≠[]→(k,lkA al k)∈al:=by
 intro al h
 obtain⟨a,h1,h2,h3⟩:=zf h
 obtain⟨a1,a2⟩:=a
 simp only at h2 h3
 rw[←h2,←h3] at*
 rw[h2];rw[h2] at h1;exact h1
theorem D8 {m m':SM}{k:Str}{v:Ver}{e:Int}(h:SOK m)(hp:Hj m k v m' e)(hv:m.last≤v.t):SOK m':=by
 rcases hp with⟨h0,ht,_,rfl⟩|⟨_,_,_,rfl⟩|⟨_,h1,_,h2,h3,h4,h5,h6⟩
 ·have hm:=zh h0
  have hl:((lkA m.all k).dropLast++[v]).length=(lkA m.all k).length:=by
   have:=List.length_pos_iff.mpr h0
   simp;omega
  refine⟨h.rt,fun k'=>?_,fun a ha=>?_,?_,vw h.dist,?_,h.room,fun a ha=>?_,fun a ha x hx=>?_⟩
  ·show(∃q∈m.ps.flatten,q.1=k')↔lkA (iH m.all k _) k'≠[]
   rw[h.keys k']
   by_cases e:k'=k
   ·subst e;rw[yR];exact⟨fun _=>by simp,fun _=>h0⟩
   ·rw[HI e]
  ·rcases mem_set ha with rfl|ha
   ·simp
   ·exact h.ent a ha
  ·show(iH m.all k _).length=_
   rw[uO h0];exact h.num
  ·show(iH m.all k _).length≤m.size∧_
   rw[uO h0];exact h.size
  ·rcases mem_set ha with rfl|ha
   ·simp only[hl];exact h.few _ hm
   ·exact h.few a ha
  ·show x.t≤m.last
   rcases mem_set ha with rfl|ha
   ·simp only[List.mem_append,List.mem_singleton] at hx
    rcases hx with hx|rfl
    ·exact h.last _ hm x (List.dropLast_subset _ hx)
    ·rw[←ht]
     unfold fU
     cases hg:(lkA m.all k).getLast? with
     |none=>rw[List.getLast?_eq_none_iff] at hg;exact absurd hg h0
     |some y=>exact h.last _ hm y (List.mem_of_getLast? hg)
   ·exact h.last a ha x hx
 ·exact h
 ·have hlen:(lkA m.all k=[]∧m'.all.length=m.all.length+1)∨(lkA m.all k≠[]∧m'.all.length=m.all.length):=by
   rw[h5]
   by_cases h0:lkA m.all k=[]
   ·exact .inl ⟨h0,Eo h.ent h0⟩
   ·exact .inr ⟨h0,uO h0⟩
  have hfew:(lkA m.all k).length≤m.size:=by
   by_cases h0:lkA m.all k=[]
   ·rw[h0];have:=h.size;simp;omega
   ·exact h.few _ (zh h0)
  have hnum:(lkA m.all k=[]∧m'.ps.flatten.length=m.ps.flatten.length+1)∨(lkA m.all k≠[]∧m'.ps.flatten.length=m.ps.flatten.length):=by
   rcases h6 with⟨h0,e⟩|⟨h0,_,A,B,e1,e2⟩
   ·exact .inr ⟨h0,by rw[e]⟩
   ·refine .inl ⟨h0,?_⟩
    rw[e1,e2];simp only[List.length_append,List.length_cons];omega
  refine⟨?_,fun k'=>?_,fun a ha=>?_,?_,by rw[h5];exact vw h.dist,?_,by rw[h2];exact h.room,fun a ha=>?_,fun a ha x hx=>?_⟩
  ·rcases h6 with⟨_,e⟩|⟨_,hr,_⟩
   ·rw[e];exact h.rt
   ·exact hr
  ·rw[h5]
   by_cases e:k'=k
   ·subst e
    rw[yR]
    refine⟨fun _=>by simp,fun _=>?_⟩
    rcases h6 with⟨h0,e⟩|⟨_,_,A,B,_,e2⟩
    ·rw[e];exact(h.keys k').mpr h0
    ·rw[e2];exact⟨_,List.mem_append_right _ List.mem_cons_self,rfl⟩
   ·rw[HI e,←h.keys k']
    rcases h6 with⟨_,e⟩|⟨_,_,A,B,e1,e2⟩
    ·rw[e]
    ·rw[e1,e2]
     constructor
     ·rintro⟨q,hq,hqk⟩
      rcases List.mem_append.mp hq with hq|hq
      ·exact⟨q,List.mem_append_left _ hq,hqk⟩
      ·rcases List.mem_cons.mp hq with rfl|hq
       ·exact absurd hqk.symm e
       ·exact⟨q,List.mem_append_right _ hq,hqk⟩
     ·rintro⟨q,hq,hqk⟩
      rcases List.mem_append.mp hq with hq|hq
      ·exact⟨q,List.mem_append_left _ hq,hqk⟩
      ·exact⟨q,List.mem_append_right _ (List.mem_cons_of_mem _ hq),hqk⟩
  ·rw[h5] at ha
   rcases mem_set ha with rfl|ha
   ·simp
   ·exact h.ent a ha
  ·have:=h.num
   rcases hlen with⟨e,h7⟩|⟨e,h7⟩<;>rcases hnum with⟨e2,h8⟩|⟨e2,h8⟩
   ·omega
   ·exact absurd e e2
   ·exact absurd e2 e
   ·omega
  ·have:=h.size
   rw[h3,h2]
   rcases hlen with⟨_,h7⟩|⟨_,h7⟩<;>omega
  ·rw[h5] at ha
   rcases mem_set ha with rfl|ha
   ·simp only[List.length_append,List.length_cons,List.length_nil,h3];omega
   ·have:=h.few a ha;omega
  ·rw[h4]
   rw[h5] at ha
   rcases mem_set ha with rfl|ha
   ·simp only[List.mem_append,List.mem_singleton] at hx
    rcases hx with hx|rfl
    ·exact Int.le_trans (h.last _ (zh fun e=>by rw[e] at hx;cases hx) x hx) hv
    ·exact Int.le_refl _
   ·exact Int.le_trans (h.last a ha x hx) hv
end Go.Proofs.Ytofohkdkpbigiaa
end
section
namespace Go.Proofs.Ytofohkdkpbigiaa
open Go.Am
set_option maxRecDepth 10000
set_option maxHeartbeats 1000000
set_option linter.unusedSimpArgs false
structure Dn where
 client:Int
 seq:Int
 time:Int
 code:Int
def dn (d:Dn):List AV:=[.int .i64 d.client, .int .i64 d.seq, .int .i64 d.time, .int .i64 d.code]
structure MM where
 room:Int
 time:Int
 st:SM
 dN:List Dn
 last:List (Int×Int×Int)
structure jL where
 mb:Nat
 lb:Nat
 sp:AV
 dv:AV
 es:List (AV×AV)
 cs:Tr AV
 G:Nat→Prop
 y:Lay
structure MaR (s:St)(p:AV)(m:MM)(y:jL):Prop where
 ptr:p= .ptr (some (y.mb,0))
 hmb:s.h.get y.mb=some (.cells y.cs 5)
 hcs:ldL y.cs 0 5=some [.int .i64 m.room, .int .i64 m.time,y.sp,y.dv, .map (some y.lb)]
 hlb:s.h.get y.lb=some (.map y.es)
 hes:dF (fun e a=>e.1= .int .i64 a.1∧e.2= .agg [.int .i64 a.2.1, .int .i64 a.2.2]) y.es m.last
 st:StR s y.G y.sp m.st y.y
 acc:Acc s y.dv 4 (m.dN.map dn)
 own:¬y.G y.mb∧¬y.G y.lb∧y.mb≠y.lb∧∀b,blk y.dv=some b→¬y.G b∧b≠y.mb∧b≠y.lb
 lt:y.mb<s.nx∧y.lb<s.nx
theorem MaR.no {s t:St}{p:AV}{m:MM}{y:jL}(h:MaR s p m y)(hm:Am.Mod No s t):MaR t p m y:=
 ⟨h.ptr,(hm.old _ h.lt.1 (fun h=>h)).trans h.hmb,h.hcs,(hm.old _ h.lt.2 (fun h=>h)).trans h.hlb,h.hes,h.st.mod hm (fun _ _ h=>h),h.acc.mod hm (fun _ _ h=>h),h.own,Nat.lt_of_lt_of_le h.lt.1 hm.nx,Nat.lt_of_lt_of_le h.lt.2 hm.nx⟩
theorem MaR.cell {s:St}{p:AV}{m:MM}{y:jL}(h:MaR s p m y):y.cs.get 0=some (.int .i64 m.room)∧y.cs.get 1=some (.int .i64 m.time)∧y.cs.get 2=some y.sp∧y.cs.get 3=some y.dv∧y.cs.get 4=some (.map (some y.lb)):=by
 have g:=(aR.mp h.hcs).2
 simp only[Nat.zero_add] at g
 exact⟨g 0 _ rfl,g 1 _ rfl,g 2 _ rfl,g 3 _ rfl,g 4 _ rfl⟩
section
variable {O:bk}
theorem IJ:X.fns.get 9=some Try.f9:=by kernel_rfl
theorem Ao {b off:Nat}:ah X 60 (.ptr (some (b,off))) 0=some (.pure (.ptr (some (b,off)))):=by
 simp only[ah,qL,bj,List.getElem?_cons_zero,ay,Nat.add_zero]
theorem zB {b off:Nat}:ah X 60 (.ptr (some (b,off))) 1=some (.pure (.ptr (some (b,off+1)))):=by
 simp only[ah,qL,bj,List.getElem?_cons_zero,List.getElem?_cons_succ,ay]
theorem eD {b off:Nat}:ah X 60 (.ptr (some (b,off))) 2=some (.pure (.ptr (some (b,off+2)))):=by
 simp only[ah,qL,bj,List.getElem?_cons_zero,List.getElem?_cons_succ,dp]
theorem B6 (ho:O 9=none){s:St}{p:AV}{m:MM}{y:jL}(h:MaR s p m y):
  Ca X O (.fn 9) [p] s fun z=>z= .ret y.sp s:=by
 obtain⟨c0,c1,c2,c3,c4⟩:=h.cell
 have hp:=h.ptr
 subst hp
 refine aZ ho IJ rfl ?_
 unfold aB aB
 repeat(first|refine uS ?_ |refine aa rfl ?_ |refine ad (by simp(disch:=omega) only[uB,uT,sc ma];exact rfl) ?_)
 refine uJ [0,4] ?_
 refine ae rfl rfl (fun hc=>?_) (fun hc=>?_)
 ·cases hc
 ·repeat(first|refine uS ?_ |refine aa rfl ?_ |refine ad (by simp(disch:=omega) only[uB,uT,bN,eD,Nat.zero_add,aj dw rfl dp h.hmb c2];exact rfl) ?_)
  refine ai rfl ?_
  rfl
end
end Go.Proofs.Ytofohkdkpbigiaa
end
section
namespace Go.Proofs.Ytofohkdkpbigiaa
open Go.Am
set_option maxRecDepth 10000
set_option maxHeartbeats 1000000
set_option linter.unusedSimpArgs false
def lkC:List (Int×Int×Int)→Int→Option (Int×Int)
 |[],_=>none
 |(a,v)::l,k=>if k=a then some v else lkC l k
theorem ye {a b:Int}:fA (.int .i64 a) (.int .i64 b)=some (decide (a=b)):=by simp[fA]
theorem L9 {k:Int}:∀ {es:List (AV×AV)} {l:List (Int×Int×Int)},dF (fun e a=>e.1= .int .i64 a.1∧e.2= .agg [.int .i64 a.2.1, .int .i64 a.2.2]) es l→
  nk (.int .i64 k) es=some ((lkC l k).map fun q=> .agg [.int .i64 q.1, .int .i64 q.2])
 |[],[],_=>rfl
 |[],_::_,h=>h.elim
 | _::_,[],h=>h.elim
 |(a,v)::es,(b,q)::l,⟨⟨h1,h2⟩,h3⟩=>by
  simp only at h1 h2
  subst h1 h2
  simp only[nk,ye,lkC]
  by_cases e:k=b
  ·rw[if_pos e];simp[e]
  ·rw[if_neg e];simp only[e,decide_false];exact L9 h3
section
variable {O:bk}
theorem Jk:X.fns.get 5=some Try.f5:=by kernel_rfl
theorem IP:X.fns.get 34=some Try.f34:=by kernel_rfl
theorem HP {b off:Nat}:ah X 60 (.ptr (some (b,off))) 3=some (.pure (.ptr (some (b,off+3)))):=by
 simp only[ah,qL,bj,List.getElem?_cons_zero,List.getElem?_cons_succ,rM]
theorem zS {b off:Nat}:ah X 60 (.ptr (some (b,off))) 4=some (.pure (.ptr (some (b,off+4)))):=by
 simp only[ah,qL,bj,List.getElem?_cons_zero,List.getElem?_cons_succ,pI]
theorem C4 {n:Int}{sp:Option (Nat×Nat)}{b:Nat}:bf X 60 [(0, .int .i64 n),(2, .ptr sp),(4, .map (some b))]=some (.pure (.agg [.int .i64 n, .int .i64 0, .ptr sp, .slc none 0 0 true, .map (some b)])):=by
 simp only[bf,qL,Ey,cI,ay,dp,rM,pI,bZ,cO,AV.cells,db,eL]
 rfl
theorem FF (hn:O 5=none)(ho:O 16=none){s:St}{n:Int}(h0:1≤n)(h1:n≤4096):
  Ca X O (.fn 5) [.int .i64 n] s fun z=>∃p s' y,z= .ret (.tup [p, .int .i64 0]) s'∧MaR s' p ⟨n,0,zP n,[],[]⟩ y∧Am.Mod No s s':=by
 refine aZ hn Jk rfl ?_
 unfold aB aB
 refine uG ?_
 refine au (I3 ho h0 h1) ?_ ?_
 ·rintro z s1 ⟨p,s1',G,y,e,hst,hm1,hG⟩
  cases e
  have hp:=hst.ptr
  subst hp
  refine uL ?_
  refine uG ?_
  refine uJ [0,4,12] ?_
  refine ae rfl rfl (fun hc=>?_) (fun hc=>?_)
  ·cases hc
  ·have hbx:∀ {s':St},dS (.agg [.int .i64 n, .int .i64 0, .ptr (some (y.sb,0)), .slc none 0 0 true, .map (some s1.nx)]) s'=some (.val (.ptr (some (s'.nx,0))) {s' with h:=s'.h.put s'.nx (.cells (Tr.of [.int .i64 n, .int .i64 0, .ptr (some (y.sb,0)), .slc none 0 0 true, .map (some s1.nx)]) 5),nx:=s'.nx+1}):=da rfl
   (repeat(first|refine uS ?_ |refine aa rfl ?_));refine ad (by simp(disch:=omega) only[uB,uT,HO,C4,hbx];exact rfl) ?_;(repeat(first|refine uS ?_ |refine aa rfl ?_))
   refine ai rfl ?_
   have hlt:=hst.lt
   refine⟨_,_,⟨s1.nx+1,s1.nx, .ptr (some (y.sb,0)), .slc none 0 0 true,[],Tr.of [.int .i64 n, .int .i64 0, .ptr (some (y.sb,0)), .slc none 0 0 true, .map (some s1.nx)],G,y⟩,rfl,?_,(hm1.new _).new _⟩
   refine⟨rfl,bu,jt rfl rfl,?_,trivial,hst.mod (((Mod.refl No s1).new _).new _) (fun _ _ h=>h),Acc.nil,⟨fun h=>?_,fun h=>?_,by simp,fun b hb=>by cases hb⟩,⟨Nat.lt_succ_self _,Nat.lt_succ_of_lt (Nat.lt_succ_self _)⟩⟩
   ·show((s1.h.put s1.nx _).put (s1.nx+1) _).get s1.nx=_
    rw[aS (by omega),bu]
   ·have:s1.nx+1<s1.nx:=hlt _ h;omega
   ·have:s1.nx<s1.nx:=hlt _ h;omega
 ·rintro z s' ⟨_,_,_,_,e,_⟩
  cases e
theorem MaR.look {s:St}{p:AV}{m:MM}{y:jL}(h:MaR s p m y)(k:Int)(ok:Bool):
  eC X 57 (.map (some y.lb)) (.int .i64 k) ok s=oM ok (.agg [.int .i64 ((lkC m.last k).getD (0,0)).1, .int .i64 ((lkC m.last k).getD (0,0)).2]) (lkC m.last k).isSome:=by
 simp only[eC,sX,aJ,mapOf,h.hlb,plainKey,L9 h.hes]
 cases lkC m.last k with
 |none=>simp only[Option.map_none,vq,pA];rfl
 |some q=>rfl
theorem vQ {b m x:Nat}{c c':Tr AV}{u w:Int}{t0:Tr AB}{g:Tr (Tr AV)}{sh:List Nat}(hs:stL [.int .i64 u, .int .i64 w] 0 c=some c'):cF X 104 (.ptr (some (b,0))) (.agg [.int .i64 u, .int .i64 w]) {h:=t0.put b (.cells c m),nx:=x,gl:=g,sh:=sh}=some (.val (.tup []) {h:=(t0.put b (.cells c m)).put b (.cells c' m),nx:=x,gl:=g,sh:=sh}):=
 de AJ rfl rfl hs
theorem K3 {v:AV}{b:Bool}:oM true v b=some (.pure (.tup [v, .bool b])):=rfl
theorem CX (ho:O 34=none){s:St}{p:AV}{m:MM}{y:jL}(h:MaR s p m y)(k:Int):
  Ca X O (.fn 34) [p, .int .i64 k] s fun z=>∃s',z= .ret (.bool (lkC m.last k).isSome) s'∧Am.Mod No s s':=by
 obtain⟨c0,c1,c2,c3,c4⟩:=h.cell
 have hp:=h.ptr
 subst hp
 obtain⟨cc,hcc,_⟩:=eo (cs:=[.int .i64 ((lkC m.last k).getD (0,0)).1, .int .i64 ((lkC m.last k).getD (0,0)).2]) (zs:=[.int .i64 0, .int .i64 0]) rfl
 refine aZ ho IP rfl ?_
 unfold aB aB aB
 (repeat(first|refine uS ?_ |refine aa rfl ?_));refine ad (by simp(disch:=omega) only[uB,uT];exact rfl) ?_;(repeat(first|refine uS ?_ |refine aa rfl ?_))
 (repeat(first|refine uS ?_ |refine aa rfl ?_));refine ad (by simp(disch:=omega) only[uB,uT,bN,zS,Nat.zero_add,aj sX rfl pI h.hmb c4,h.look k,K3,bS pA rfl,AV.cells,vQ hcc];exact rfl) ?_;(repeat(first|refine uS ?_ |refine aa rfl ?_))
 refine WL.st (fun s'=>Am.Mod No s s') (((Mod.refl _ s).new _).put _ (.inl (Nat.le_refl _)) (Nat.lt_succ_self _)) ?_
 rintro s1 hm
 refine uG ?_
 refine ai rfl ?_
 exact⟨s1,rfl,hm⟩
end
end Go.Proofs.Ytofohkdkpbigiaa
end
section
namespace Go.Proofs.Ytofohkdkpbigiaa
open Go.Am
set_option maxRecDepth 10000
set_option maxHeartbeats 1000000
set_option linter.unusedSimpArgs false
structure Vl where
 kind:Int
 n:Int
 f:Nat
 s:Str
def vl (v:Vl):List AV:=[.int .i64 v.kind, .int .i64 v.n, .int .u64 (v.f:Int), .str v.s]
structure Cmd where
 kind:Int
 client:Int
 seq:Int
 snap:Int
 keys:List Str
 ranges:List (Str×Str)
 writes:List (Str×Str×Bool)
 dl:Int
 after:Int
 held:Int
 text:Str
 code:Int
 rows:List (List Vl)
structure CL where
 k:AV
 r:AV
 w:AV
 x:AV
def cj (c:Cmd)(y:CL):List AV:=[.int .i64 c.kind, .int .i64 c.client, .int .i64 c.seq, .int .i64 c.snap,y.k,y.r,y.w, .int .i64 c.dl, .int .i64 c.after, .int .i64 c.held, .str c.text, .int .i64 c.code,y.x]
def wrt (w:Str×Str×Bool):List AV:=[.str w.1, .str w.2.1, .bool w.2.2]
def kr (k:Str):List AV:=[.str k]
structure jG (s:St)(c:Cmd)(y:CL):Prop where
 k:Sli s y.k 1 (c.keys.map kr)
 r:Sli s y.r 2 (c.ranges.map pr)
 w:Sli s y.w 3 (c.writes.map wrt)
 kl:c.keys.length≤100000
 rl:c.ranges.length≤100000
 wl:c.writes.length≤100000
 xs:∃a n k b,y.x= .slc a n k b
def CL.has (y:CL)(b:Nat):Prop:=blk y.k=some b∨blk y.r=some b∨blk y.w=some b
theorem jG.mod {B:Nat→Prop}{s t:St}{c:Cmd}{y:CL}(h:jG s c y)(hm:Am.Mod B s t)(hb:∀b,y.has b→¬B b):jG t c y:=
 ⟨h.k.mod hm fun b e=>hb b (.inl e),h.r.mod hm fun b e=>hb b (.inr (.inl e)),h.w.mod hm fun b e=>hb b (.inr (.inr e)),h.kl,h.rl,h.wl,h.xs⟩
theorem jG.no {s t:St}{c:Cmd}{y:CL}(h:jG s c y)(hm:Am.Mod No s t):jG t c y:=h.mod hm (fun _ _ h=>h)
theorem pW {v:AV}{s:St}{es:Nat}{rows:List (List AV)}(h:Sli s v es rows):v.one=true:=by
 obtain⟨a,c,x,rfl,_⟩:=h.ex;rfl
theorem Ex {k:IntKind}{n:Int}:(AV.int k n).one=true:=rfl
theorem D7 {v:Str}:(AV.str v).one=true:=rfl
theorem jG.one {s:St}{c:Cmd}{y:CL}(h:jG s c y):y.x.one=true:=by
 obtain⟨a,n,k,b,e⟩:=h.xs;rw[e];rfl
theorem wW {v:AV}{s:St}{es:Nat}{rows:List (List AV)}(h:Sli s v es rows):v.same v=true:=by
 obtain⟨a,c,x,rfl,_⟩:=h.ex;exact oQ
theorem jG.same {s:St}{c:Cmd}{y:CL}(h:jG s c y):(AV.agg (cj c y)).same (.agg (cj c y))=true:=by
 obtain⟨a,n,k,b,e⟩:=h.xs
 have hx:y.x.same y.x=true:=by rw[e];exact oQ
 rw[vi]
 simp only[cj,og,pS,o9,rT,wW h.k,wW h.r,wW h.w,hx,Bool.and_self]
theorem jG.qz {s:St}{c:Cmd}{y:CL}(h:jG s c y):aX (cj c y)=true:=by
 simp only[cj,aX,Ex,D7,pW h.k,pW h.r,pW h.w,h.one,Bool.and_self]
section
variable {O:bk}
theorem NI:X.fns.get 55=some Try.f55:=by kernel_rfl
theorem KV:X.fns.get 74=some Try.f74:=by kernel_rfl
theorem JD:X.fns.get 77=some Try.f77:=by kernel_rfl
theorem Lo:X.fns.get 73=some Try.f73:=by kernel_rfl
theorem KG:X.fns.get 83=some Try.f83:=by kernel_rfl
theorem Lv:X.fns.get 76=some Try.f76:=by kernel_rfl
theorem KP:X.fns.get 84=some Try.f84:=by kernel_rfl
theorem jn {b off:Nat}:ah X 40 (.ptr (some (b,off))) 0=some (.pure (.ptr (some (b,off)))):=by
 simp only[ah,bY,bj,List.getElem?_cons_zero,List.getElem?_cons_succ,ay,Nat.add_zero]
theorem gK {b off:Nat}:ah X 40 (.ptr (some (b,off))) 1=some (.pure (.ptr (some (b,off+1)))):=by
 simp only[ah,bY,bj,List.getElem?_cons_zero,List.getElem?_cons_succ,ay,Nat.add_zero]
theorem kE {b off:Nat}:ah X 40 (.ptr (some (b,off))) 2=some (.pure (.ptr (some (b,off+2)))):=by
 simp only[ah,bY,bj,List.getElem?_cons_zero,List.getElem?_cons_succ,ay,Nat.add_zero]
theorem ly {b off:Nat}:ah X 40 (.ptr (some (b,off))) 3=some (.pure (.ptr (some (b,off+3)))):=by
 simp only[ah,bY,bj,List.getElem?_cons_zero,List.getElem?_cons_succ,ay,Nat.add_zero]
theorem mK {b off:Nat}:ah X 40 (.ptr (some (b,off))) 4=some (.pure (.ptr (some (b,off+4)))):=by
 simp only[ah,bY,bj,List.getElem?_cons_zero,List.getElem?_cons_succ,fu,Nat.add_zero]
theorem md {b off:Nat}:ah X 40 (.ptr (some (b,off))) 5=some (.pure (.ptr (some (b,off+5)))):=by
 simp only[ah,bY,bj,List.getElem?_cons_zero,List.getElem?_cons_succ,fi,Nat.add_zero]
theorem iK {b off:Nat}:ah X 40 (.ptr (some (b,off))) 6=some (.pure (.ptr (some (b,off+6)))):=by
 simp only[ah,bY,bj,List.getElem?_cons_zero,List.getElem?_cons_succ,ft,Nat.add_zero]
theorem mJ {b off:Nat}:ah X 40 (.ptr (some (b,off))) 7=some (.pure (.ptr (some (b,off+7)))):=by
 simp only[ah,bY,bj,List.getElem?_cons_zero,List.getElem?_cons_succ,ay,Nat.add_zero]
theorem nj {b off:Nat}:ah X 40 (.ptr (some (b,off))) 8=some (.pure (.ptr (some (b,off+8)))):=by
 simp only[ah,bY,bj,List.getElem?_cons_zero,List.getElem?_cons_succ,ay,Nat.add_zero]
theorem nZ {b off:Nat}:ah X 40 (.ptr (some (b,off))) 9=some (.pure (.ptr (some (b,off+9)))):=by
 simp only[ah,bY,bj,List.getElem?_cons_zero,List.getElem?_cons_succ,ay,Nat.add_zero]
theorem iE {b off:Nat}:ah X 40 (.ptr (some (b,off))) 10=some (.pure (.ptr (some (b,off+10)))):=by
 simp only[ah,bY,bj,List.getElem?_cons_zero,List.getElem?_cons_succ,aF,Nat.add_zero]
theorem iA {b off:Nat}:ah X 40 (.ptr (some (b,off))) 11=some (.pure (.ptr (some (b,off+11)))):=by
 simp only[ah,bY,bj,List.getElem?_cons_zero,List.getElem?_cons_succ,ay,Nat.add_zero]
theorem eE {b off:Nat}:ah X 40 (.ptr (some (b,off))) 12=some (.pure (.ptr (some (b,off+12)))):=by
 simp only[ah,bY,bj,List.getElem?_cons_zero,List.getElem?_cons_succ,gX,Nat.add_zero]
theorem vX {b off:Nat}:ah X 42 (.ptr (some (b,off))) 0=some (.pure (.ptr (some (b,off)))):=by
 simp only[ah,qH,bj,List.getElem?_cons_zero,List.getElem?_cons_succ,aF,Nat.add_zero]
theorem wy {b off:Nat}:ah X 42 (.ptr (some (b,off))) 1=some (.pure (.ptr (some (b,off+1)))):=by
 simp only[ah,qH,bj,List.getElem?_cons_zero,List.getElem?_cons_succ,aF,Nat.add_zero]
theorem jm {b off:Nat}:ah X 34 (.ptr (some (b,off))) 0=some (.pure (.ptr (some (b,off)))):=by
 simp only[ah,lx,bj,List.getElem?_cons_zero,List.getElem?_cons_succ,aF,Nat.add_zero]
theorem lT {b off:Nat}:ah X 34 (.ptr (some (b,off))) 1=some (.pure (.ptr (some (b,off+1)))):=by
 simp only[ah,lx,bj,List.getElem?_cons_zero,List.getElem?_cons_succ,aF,Nat.add_zero]
theorem lC {b off:Nat}:ah X 34 (.ptr (some (b,off))) 2=some (.pure (.ptr (some (b,off+2)))):=by
 simp only[ah,lx,bj,List.getElem?_cons_zero,List.getElem?_cons_succ,eI,Nat.add_zero]
theorem E9 (ho:O 83=none){s:St}{v b1 b2:AV}{f:FuncId}{qs:List Str}{P:Str→Bool}(hs:Sli s v 1 (qs.map kr))(hl:qs.length≤100000)
  (hf:∀s' q,Am.Mod No s s'→Ca X O (.fn f) [.str q,b1,b2] s' fun z=>∃s2,z= .ret (.bool (P q)) s2∧Am.Mod No s' s2):
  Ca X O (.fn 83) [v, .func (.func f) [] [b1,b2]] s fun z=>∃k s',z= .ret (.int .i64 k) s'∧decide (0≤k)=qs.any P∧Am.Mod No s s':=by
 obtain⟨a,c,x,rfl,_⟩:=hs.ex
 rw[List.length_map] at hs
 refine aZ ho KG rfl ?_
 unfold aB aB aB
 rw[List.length_map]
 refine uG ?_
 let I:Nat→Sl→St→Prop:=fun i L s'=>Am.Mod No s s'∧i≤qs.length∧(qs.take i).any P=false∧L=[(0, .slc a qs.length c x),(1, .func (.func f) [] [b1,b2]),(7, .int .i64 (qs.length:Int)),(8, .int .i64 (i:Int))]
 refine WL.less (M:=[(0, .slc a qs.length c x),(1, .func (.func f) [] [b1,b2]),(7, .int .i64 (qs.length:Int)),(8, .int .i64 ((0:Nat):Int))]) ?_ rfl
 refine bm I (fun i=>qs.length- i) ?_ qs.length 0 _ s (by simp) ⟨Mod.refl _ _,Nat.zero_le _,rfl,rfl⟩
 rintro i L s1 ⟨hm1,hi,hno,rfl⟩
 refine uG ?_
 refine uJ [0,1,7,8,9] ?_
 refine ae rfl rfl (fun hc2=>?_) (fun hc2=>?_)
 ·simp at hc2
  obtain⟨q,hq⟩:∃q,qs[i]? =some q:=⟨_,List.getElem?_eq_getElem (by omega)⟩
  obtain⟨b5,off5,c5,x5,t5,n5,e5,_,k2,k3⟩:=(hs.mod hm1 (fun _ _ h=>h)).at (i:=i) (r:=kr q) (by simp[hq])
  rw[List.length_map] at e5
  cases e5
  have k4:=fO k3
  repeat(first|refine uS ?_ |refine aa rfl ?_ |refine ad (by simp(disch:=omega) only[uB,uT,aT dK aF,aj aE rfl aF k2 k4,Int.toNat_natCast];exact rfl) ?_)
  refine au (hf s1 q hm1) ?_ ?_
  ·rintro z s2 ⟨s2',e,hm2⟩
   cases e
   have hm12:=hm1.trans hm2 (fun _ _ h=>h)
   refine uL ?_
   refine uH ?_
   refine uJ [0,1,5,7,8,16] ?_
   refine ae rfl rfl (fun hc3=>?_) (fun hc3=>?_)
   ·refine uG ?_
    refine ai rfl ?_
    refine⟨_,s2,rfl,?_,hm12⟩
    have:qs.any P=true:=List.any_eq_true.mpr ⟨q,List.mem_of_getElem? hq,hc3⟩
    rw[this]
    simp
   ·refine uG ?_
    refine aM (i+1) [(0, .slc (some (b5,off5,1)) qs.length c x),(1, .func (.func f) [] [b1,b2]),(7, .int .i64 (qs.length:Int)),(8, .int .i64 ((i+1:Nat):Int))] ⟨hm12,by omega,?_,by simp⟩ (by show qs.length- (i+1)<qs.length- i;omega) (by simp[aI,aD])
    rw[List.take_add_one,hq,List.any_append,hno]
    simp[hc3]
  ·rintro z s' ⟨_,e,_⟩
   cases e
 ·simp at hc2
  have:i=qs.length:=by omega
  subst this
  refine uG ?_
  refine ai rfl ?_
  refine⟨_,s1,rfl,?_,hm1⟩
  rw[List.take_length] at hno
  rw[hno]
  rfl
theorem FM (hc:O 73=none)(ho:O 83=none){s:St}{v b1 b2:AV}{f:FuncId}{qs:List Str}{P:Str→Bool}(hs:Sli s v 1 (qs.map kr))(hl:qs.length≤100000)
  (hf:∀s' q,Am.Mod No s s'→Ca X O (.fn f) [.str q,b1,b2] s' fun z=>∃s2,z= .ret (.bool (P q)) s2∧Am.Mod No s' s2):
  Ca X O (.fn 73) [v, .func (.func f) [] [b1,b2]] s fun z=>∃s',z= .ret (.bool (qs.any P)) s'∧Am.Mod No s s':=by
 refine aZ hc Lo rfl ?_
 unfold aB aB aB
 refine uG ?_
 refine au (E9 ho hs hl hf) ?_ ?_
 ·rintro z s1 ⟨k,s1',e,h1,h2⟩
  cases e
  refine uL ?_
  refine uG ?_
  refine ai rfl ?_
  refine⟨s1,?_,h2⟩
  rw[←h1];rfl
 ·rintro z s' ⟨_,_,e,_⟩
  cases e
theorem FD (ho:O 84=none){s:St}{v b1 b2:AV}{f:FuncId}{qs:List (Str×Str)}{P:Str×Str→Bool}(hs:Sli s v 2 (qs.map pr))(hl:qs.length≤100000)
  (hf:∀s' q,Am.Mod No s s'→Ca X O (.fn f) [.agg (pr q),b1,b2] s' fun z=>∃s2,z= .ret (.bool (P q)) s2∧Am.Mod No s' s2):
  Ca X O (.fn 84) [v, .func (.func f) [] [b1,b2]] s fun z=>∃k s',z= .ret (.int .i64 k) s'∧decide (0≤k)=qs.any P∧Am.Mod No s s':=by
 obtain⟨a,c,x,rfl,_⟩:=hs.ex
 rw[List.length_map] at hs
 refine aZ ho KP rfl ?_
 unfold aB aB aB
 rw[List.length_map]
 refine uG ?_
 let I:Nat→Sl→St→Prop:=fun i L s'=>Am.Mod No s s'∧i≤qs.length∧(qs.take i).any P=false∧L=[(0, .slc a qs.length c x),(1, .func (.func f) [] [b1,b2]),(7, .int .i64 (qs.length:Int)),(8, .int .i64 (i:Int))]
 refine WL.less (M:=[(0, .slc a qs.length c x),(1, .func (.func f) [] [b1,b2]),(7, .int .i64 (qs.length:Int)),(8, .int .i64 ((0:Nat):Int))]) ?_ rfl
 refine bm I (fun i=>qs.length- i) ?_ qs.length 0 _ s (by simp) ⟨Mod.refl _ _,Nat.zero_le _,rfl,rfl⟩
 rintro i L s1 ⟨hm1,hi,hno,rfl⟩
 refine uG ?_
 refine uJ [0,1,7,8,9] ?_
 refine ae rfl rfl (fun hc2=>?_) (fun hc2=>?_)
 ·simp at hc2
  obtain⟨q,hq⟩:∃q,qs[i]? =some q:=⟨_,List.getElem?_eq_getElem (by omega)⟩
  obtain⟨b5,off5,t5,n5,c5,x5,e5,k1,k2,k3,k4⟩:=mE (hs.mod hm1 (fun _ _ h=>h)) hq
  cases e5
  repeat(first|refine uS ?_ |refine aa rfl ?_ |refine ad (by simp(disch:=omega) only[uB,uT,aT fq gm,cG qH rfl gm k1 k4,Int.toNat_natCast];exact rfl) ?_)
  refine au (hf s1 q hm1) ?_ ?_
  ·rintro z s2 ⟨s2',e,hm2⟩
   cases e
   have hm12:=hm1.trans hm2 (fun _ _ h=>h)
   refine uL ?_
   refine uH ?_
   refine uJ [0,1,5,7,8,16] ?_
   refine ae rfl rfl (fun hc3=>?_) (fun hc3=>?_)
   ·refine uG ?_
    refine ai rfl ?_
    refine⟨_,s2,rfl,?_,hm12⟩
    have:qs.any P=true:=List.any_eq_true.mpr ⟨q,List.mem_of_getElem? hq,hc3⟩
    rw[this]
    simp
   ·refine uG ?_
    refine aM (i+1) [(0, .slc (some (b5,off5,2)) qs.length c x),(1, .func (.func f) [] [b1,b2]),(7, .int .i64 (qs.length:Int)),(8, .int .i64 ((i+1:Nat):Int))] ⟨hm12,by omega,?_,rfl⟩ (by show qs.length- (i+1)<qs.length- i;omega) (by simp[aI,aD])
    rw[List.take_add_one,hq,List.any_append,hno]
    simp[hc3]
  ·rintro z s' ⟨_,e,_⟩
   cases e
 ·simp at hc2
  have:i=qs.length:=by omega
  subst this
  refine uG ?_
  refine ai rfl ?_
  refine⟨_,s1,rfl,?_,hm1⟩
  rw[List.take_length] at hno
  rw[hno]
  rfl
theorem EK (hc:O 76=none)(ho:O 84=none){s:St}{v b1 b2:AV}{f:FuncId}{qs:List (Str×Str)}{P:Str×Str→Bool}(hs:Sli s v 2 (qs.map pr))(hl:qs.length≤100000)
  (hf:∀s' q,Am.Mod No s s'→Ca X O (.fn f) [.agg (pr q),b1,b2] s' fun z=>∃s2,z= .ret (.bool (P q)) s2∧Am.Mod No s' s2):
  Ca X O (.fn 76) [v, .func (.func f) [] [b1,b2]] s fun z=>∃s',z= .ret (.bool (qs.any P)) s'∧Am.Mod No s s':=by
 refine aZ hc Lv rfl ?_
 unfold aB aB aB
 refine uG ?_
 refine au (FD ho hs hl hf) ?_ ?_
 ·rintro z s1 ⟨k,s1',e,h1,h2⟩
  cases e
  refine uL ?_
  refine uG ?_
  refine ai rfl ?_
  refine⟨s1,?_,h2⟩
  rw[←h1];rfl
 ·rintro z s' ⟨_,_,e,_⟩
  cases e
theorem MaR.sp {s:St}{p:AV}{m:MM}{y:jL}(h:MaR s p m y):y.cs.get 2=some (.ptr (some (y.y.sb,0)))∧StR s y.G (.ptr (some (y.y.sb,0))) m.st y.y:=by
 have e:=h.st.ptr
 have c2:=h.cell.2.2.1
 have hs:=h.st
 rw[e] at c2 hs
 exact⟨c2,hs⟩
structure J7 (O:bk):Prop where
 since:Cb O
 chg:O 55=none
 chg1:O 74=none
 chg2:O 77=none
 hasS:O 73=none
 idxS:O 83=none
 hasR:O 76=none
 idxR:O 84=none
theorem FZ (ho:J7 O){s:St}{p:AV}{m:MM}{y:jL}(h:MaR s p m y)(hk:SOK m.st){c:Cmd}{z:CL}{b1 b2:Nat}(h1:Bx s b1 [p])(h2:Bx s b2 (cj c z))(k:Str):
  Ca X O (.fn 74) [.str k, .ptr (some (b1,0)), .ptr (some (b2,0))] s fun r=>∃s',r= .ret (.bool (decide (c.snap<fU (lkA m.st.all k)))) s'∧Am.Mod No s s':=by
 obtain⟨c2,hst⟩:=h.sp
 have hp:=h.ptr
 subst hp
 refine aZ ho.chg1 KV rfl ?_
 unfold aB aB aB aB
 refine uG ?_
 have hlen:=hk.len k
 refine aV [(0,none),(1,none),(2,none),(3,none),(4,none),(6,none),(7,none),(5,some [true,true,false,false,true,true,true]),(8,none),(9,some [false,false,false,false,false,false])] (by kernel_rfl) (by kernel_rfl) (by simp(disch:=omega) only[uB,uT,Nat.reduceEqDiff,↓reduceIte,uD,mask,aC,aA,h1.ld (i:=0) rfl ma rfl kH,bN,eD,Nat.zero_add,aj dw rfl dp h.hmb c2,ly,h2.ld (i:=3) rfl aJ rfl ay];exact rfl) ?_
 refine cH (xQ ho.since.last hst k (by omega)) ?_ ?_
 ·rintro r s1 e
  cases e
  refine⟨_,(by simp(disch:=omega) only[uB,uT,Nat.reduceEqDiff,↓reduceIte,uE,aC,aA,h1.ld (i:=0) rfl ma rfl kH,bN,eD,Nat.zero_add,aj dw rfl dp h.hmb c2,ly,h2.ld (i:=3) rfl aJ rfl ay];exact rfl),?_⟩
  refine uH ?_
  refine ai rfl ?_
  exact⟨s,rfl,Mod.refl _ _⟩
 ·rintro r s' e
  cases e
end
end Go.Proofs.Ytofohkdkpbigiaa
end
section
namespace Go.Proofs.Ytofohkdkpbigiaa
open Go.Am
set_option maxRecDepth 10000
set_option maxHeartbeats 1000000
set_option linter.unusedSimpArgs false
def wO (m:SM)(c:Cmd):Bool:=c.keys.any (fun k=>decide (c.snap<fU (lkA m.all k)))||c.ranges.any (fun r=>ka m r.1 r.2 c.snap)
def mV (m:SM)(c:Cmd):Nat:=(c.writes.filter fun w=>(pY (lkA m.all w.1) 1099511627776).2|| !w.2.2).length
def lI (m:MM)(c:Cmd)(t:Int):Int:=
 if t≤c.snap then 1 else if 0<c.dl∧c.dl<t then 14 else if t<c.after then 15 else if wO m.st c=true then 13 else if m.room- m.st.size<(mV m.st c:Int) then 4 else 0
section
variable {O:bk}
theorem KI:X.fns.get 35=some Try.f35:=by kernel_rfl
theorem Hx:X.fns.get 51=some Try.f51:=by kernel_rfl
theorem HG:X.fns.get 52=some Try.f52:=by kernel_rfl
theorem HK:X.fns.get 53=some Try.f53:=by kernel_rfl
theorem Hc:X.fns.get 54=some Try.f54:=by kernel_rfl
theorem GA:X.fns.get 56=some Try.f56:=by kernel_rfl
theorem Hh:X.fns.get 57=some Try.f57:=by kernel_rfl
theorem Fo (ho:J7 O){s:St}{p:AV}{m:MM}{y:jL}(h:MaR s p m y)(hk:SOK m.st){c:Cmd}{z:CL}{b1 b2:Nat}(h1:Bx s b1 [p])(h2:Bx s b2 (cj c z))(q:Str×Str):
  Ca X O (.fn 77) [.agg (pr q), .ptr (some (b1,0)), .ptr (some (b2,0))] s fun r=>∃s',r= .ret (.bool (ka m.st q.1 q.2 c.snap)) s'∧Am.Mod No s s':=by
 have hp:=h.ptr
 subst hp
 refine aZ ho.chg2 JD rfl ?_
 unfold aB aB aB aB
 (repeat(first|refine uS ?_ |refine aa rfl ?_));refine ad (by simp(disch:=omega) only[uB,uT,da (cs:=pr q) rfl];exact rfl) ?_;(repeat(first|refine uS ?_ |refine aa rfl ?_))
 refine eK fun s1 hn1 hm1 hb=>?_
 have h':=h.no hm1
 obtain⟨c2,hst⟩:=h'.sp
 have h1':=h1.no hm1
 have h2':=h2.no hm1
 refine aV [(0,none),(1,none),(2,none),(3,none),(4,none),(5,none),(6,none),(7,none),(8,none),(9,none),(10,some [false,true,false,true,false,true,false,true,true,true]),(11,some [false,false,false,false,false,false])] (by kernel_rfl) (by kernel_rfl) (by simp(disch:=omega) only[uB,uT,Nat.reduceEqDiff,↓reduceIte,uD,mask,aC,aA,h1'.ld (i:=0) rfl ma rfl kH,bN,eD,Nat.zero_add,aj dw rfl dp h'.hmb c2,ly,h2'.ld (i:=3) rfl aJ rfl ay,vX,wy,hb.ld (i:=0) rfl aE rfl aF,hb.ld (i:=1) rfl aE rfl aF];exact rfl) ?_
 refine cH (Dk ho.since hst hk) ?_ ?_
 ·rintro r s2 ⟨s2',e,hm2⟩
  cases e
  have h'':=h'.no hm2
  have h1'':=h1'.no hm2
  have h2'':=h2'.no hm2
  have hb':=hb.no hm2
  refine⟨_,(by simp(disch:=omega) only[uB,uT,Nat.reduceEqDiff,↓reduceIte,uE,aC,aA,h1''.ld (i:=0) rfl ma rfl kH,bN,eD,Nat.zero_add,aj dw rfl dp h''.hmb c2,ly,h2''.ld (i:=3) rfl aJ rfl ay,vX,wy,hb'.ld (i:=0) rfl aE rfl aF,hb'.ld (i:=1) rfl aE rfl aF];exact rfl),?_⟩
  refine uH ?_
  refine ai rfl ?_
  exact⟨s2,rfl,hm1.trans hm2 (fun _ _ h=>h)⟩
 ·rintro r s' ⟨_,e,_⟩
  cases e
theorem GZ (ho:J7 O){s:St}{p:AV}{m:MM}{y:jL}(h:MaR s p m y)(hk:SOK m.st){c:Cmd}{z:CL}(hc:jG s c z):
  Ca X O (.fn 55) [p, .agg (cj c z)] s fun r=>∃s',r= .ret (.bool (wO m.st c)) s'∧Am.Mod No s s':=by
 have hp:=h.ptr
 subst hp
 refine aZ ho.chg NI rfl ?_
 unfold aB aB aB
 (repeat(first|refine uS ?_ |refine aa rfl ?_));refine ad (by simp(disch:=omega) only[uB,uT,da (cs:=cj c z) hc.qz];exact rfl) ?_;(repeat(first|refine uS ?_ |refine aa rfl ?_))
 refine za fun s1 hn1 hm1 h1 h2=>?_
 have h':=h.no hm1
 have hc':=hc.no hm1
 repeat(first|refine uS ?_ |refine aa rfl ?_ |refine ad (by simp(disch:=omega) only[uB,uT,mK,Nat.zero_add,h2.ld (i:=4) rfl dK rfl fu];exact rfl) ?_)
 refine au (FM ho.hasS ho.idxS (P:=fun k=>decide (c.snap<fU (lkA m.st.all k))) hc'.k hc.kl (fun s' q hm=>FZ ho (h'.no hm) hk (h1.no hm) (h2.no hm) q)) ?_ ?_
 ·rintro r s2 ⟨s2',e,hm2⟩
  cases e
  have h1':=h1.no hm2
  have h2':=h2.no hm2
  have h'':=h'.no hm2
  have hc'':=hc'.no hm2
  cases hb:c.keys.any (fun k=>decide (c.snap<fU (lkA m.st.all k))) with
  |true=>
   refine bC (by simp(disch:=omega) only[uB,uT,aQ];exact rfl) ?_
   refine uG ?_
   refine ai rfl ?_
   exact⟨s2,by unfold wO;rw[hb];rfl,hm1.trans hm2 (fun _ _ h=>h)⟩
  |false=>
   refine bC (by simp(disch:=omega) only[uB,uT,md,Nat.zero_add,h2'.ld (i:=5) rfl fq rfl fi];exact rfl) ?_
   refine au (EK ho.hasR ho.idxR (P:=fun r=>ka m.st r.1 r.2 c.snap) hc''.r hc.rl (fun s' q hm=>Fo ho (h''.no hm) hk (h1'.no hm) (h2'.no hm) q)) ?_ ?_
   ·rintro r s3 ⟨s3',e,hm3⟩
    cases e
    refine uL ?_
    refine uG ?_
    refine ai rfl ?_
    exact⟨s3,by unfold wO;rw[hb];rfl,(hm1.trans hm2 (fun _ _ h=>h)).trans hm3 (fun _ _ h=>h)⟩
   ·rintro r s' ⟨_,e,_⟩
    cases e
 ·rintro r s' ⟨_,e,_⟩
  cases e
theorem Dl (ho:O 51=none){s:St}{c:Cmd}{z:CL}{b1 b2:Nat}{t:Int}(h1:Bx s b1 (cj c z))(h2:Bx s b2 [.int .i64 t]):
  Ca X O (.fn 51) [.ptr (some (b1,0)), .ptr (some (b2,0))] s fun r=>∃s',r= .ret (.bool (decide (t≤c.snap))) s'∧Am.Mod No s s':=by
 refine aZ ho Hx rfl ?_
 unfold aB aB aB
 repeat(first|refine uS ?_ |refine aa rfl ?_ |refine ad (by simp(disch:=omega) only[uB,uT,ly,Nat.zero_add,h1.ld (i:=3) rfl aJ rfl ay,h2.ld (i:=0) rfl aJ rfl ay];exact rfl) ?_)
 refine ai rfl ?_
 exact⟨s,rfl,Mod.refl _ _⟩
theorem Cj (ho:O 52=none){s:St}{c:Cmd}{z:CL}{b1 b2:Nat}{t:Int}(h1:Bx s b1 (cj c z))(h2:Bx s b2 [.int .i64 t]):
  Ca X O (.fn 52) [.ptr (some (b1,0)), .ptr (some (b2,0))] s fun r=>∃s',r= .ret (.bool (decide (0<c.dl∧c.dl<t))) s'∧Am.Mod No s s':=by
 refine aZ ho HG rfl ?_
 unfold aB aB aB
 cases hb:decide (0<c.dl) with
 |true=>
  repeat(first|refine uS ?_ |refine aa rfl ?_ |refine ad (by simp(disch:=omega) only[uB,uT,mJ,Nat.zero_add,h1.ld (i:=7) rfl aJ rfl ay,h2.ld (i:=0) rfl aJ rfl ay,hb];exact rfl) ?_)
  refine ai rfl ?_
  exact⟨s,by simp at hb;simp[hb,eX],Mod.refl _ _⟩
 |false=>
  repeat(first|refine uS ?_ |refine aa rfl ?_ |refine ad (by simp(disch:=omega) only[uB,uT,mJ,Nat.zero_add,h1.ld (i:=7) rfl aJ rfl ay,h2.ld (i:=0) rfl aJ rfl ay,hb];exact rfl) ?_)
  refine ai rfl ?_
  exact⟨s,by simp at hb;simp[show ¬(0<c.dl) by omega,eX],Mod.refl _ _⟩
theorem Cs (ho:O 53=none){s:St}{c:Cmd}{z:CL}{b1 b2:Nat}{t:Int}(h1:Bx s b1 (cj c z))(h2:Bx s b2 [.int .i64 t]):
  Ca X O (.fn 53) [.ptr (some (b2,0)), .ptr (some (b1,0))] s fun r=>∃s',r= .ret (.bool (decide (t<c.after))) s'∧Am.Mod No s s':=by
 refine aZ ho HK rfl ?_
 unfold aB aB aB
 repeat(first|refine uS ?_ |refine aa rfl ?_ |refine ad (by simp(disch:=omega) only[uB,uT,nj,Nat.zero_add,h1.ld (i:=8) rfl aJ rfl ay,h2.ld (i:=0) rfl aJ rfl ay];exact rfl) ?_)
 refine ai rfl ?_
 exact⟨s,rfl,Mod.refl _ _⟩
structure A7 (O:bk):Prop where
 chg:J7 O
 get:Ld O
 size:O 58=none
 needs:O 57=none
 code:O 35=none
 code1:O 51=none
 code2:O 52=none
 code3:O 53=none
 code4:O 54=none
 code5:O 56=none
theorem C9 (ho:A7 O){s:St}{p:AV}{m:MM}{y:jL}(h:MaR s p m y)(hk:SOK m.st){c:Cmd}{z:CL}(hc:jG s c z){b1 b2:Nat}(h1:Bx s b1 [p])(h2:Bx s b2 (cj c z)):
  Ca X O (.fn 54) [.ptr (some (b1,0)), .ptr (some (b2,0))] s fun r=>∃s',r= .ret (.bool (wO m.st c)) s'∧Am.Mod No s s':=by
 have hp:=h.ptr
 subst hp
 refine aZ ho.code4 Hc rfl ?_
 unfold aB aB aB
 repeat(first|refine uS ?_ |refine aa rfl ?_ |refine ad (by simp(disch:=omega) only[uB,uT,h1.ld (i:=0) rfl ma rfl kH,h2.all bY rfl cD];exact rfl) ?_)
 refine au (GZ ho.chg h hk hc) ?_ ?_
 ·rintro r s1 ⟨s1',e,hm1⟩
  cases e
  refine uL ?_
  refine uG ?_
  refine ai rfl ?_
  exact⟨s1,rfl,hm1⟩
 ·rintro r s' ⟨_,e,_⟩
  cases e
theorem pE {b m x:Nat}{c c':Tr AV}{w:Str×Str×Bool}{t0:Tr AB}{g:Tr (Tr AV)}{sh:List Nat}(hs:stL (wrt w) 0 c=some c'):cF X 34 (.ptr (some (b,0))) (.agg (wrt w)) {h:=t0.put b (.cells c m),nx:=x,gl:=g,sh:=sh}=some (.val (.tup []) {h:=(t0.put b (.cells c m)).put b (.cells c' m),nx:=x,gl:=g,sh:=sh}):=
 de ct rfl rfl hs
theorem Cq (ho:A7 O){s:St}{p:AV}{m:MM}{y:jL}(h:MaR s p m y)(hk:SOK m.st){c:Cmd}{z:CL}(hc:jG s c z):
  Ca X O (.fn 57) [p, .agg (cj c z)] s fun r=>∃s',r= .ret (.int .i64 (mV m.st c)) s'∧Am.Mod No s s':=by
 have hp:=h.ptr
 subst hp
 obtain⟨a,cc,xx,ew,_⟩:=hc.w.ex
 rw[List.length_map] at ew
 refine aZ ho.needs Hh rfl ?_
 unfold aB aB aB
 (repeat(first|refine uS ?_ |refine aa rfl ?_));refine ad (by simp(disch:=omega) only[uB,uT,da (cs:=cj c z) hc.qz];exact rfl) ?_;(repeat(first|refine uS ?_ |refine aa rfl ?_))
 refine eK fun s1 hn1 hm1 h2=>?_
 have h':=h.no hm1
 have hc':=hc.no hm1
 have hw:=hc'.w
 have hwl:=hc.wl
 rw[ew] at hw
 have gw:aO X 35 (.ptr (some (s.nx,6))) s1=some (.old (.slc a c.writes.length cc xx)):=by
  rw[←ew];exact h2.ld (i:=6) rfl cM rfl ft
 repeat(first|refine uS ?_ |refine aa rfl ?_ |refine ad (by simp(disch:=omega) only[uB,uT,iK,Nat.zero_add,gw];exact rfl) ?_)
 unfold mV
 generalize c.writes=qs at*
 let I:Nat→Sl→St→Prop:=fun i L s'=>Am.Mod No s1 s'∧i≤qs.length∧L=[(0, .ptr (some (y.mb,0))),(5, .int .i64 (((qs.take i).filter fun w=>(pY (lkA m.st.all w.1) 1099511627776).2|| !w.2.2).length:Int)),(11, .slc a qs.length cc xx),(12, .int .i64 (qs.length:Int)),(13, .int .i64 (i:Int))]
 refine WL.less (M:=[(0, .ptr (some (y.mb,0))),(5, .int .i64 ((0:Nat):Int)),(11, .slc a qs.length cc xx),(12, .int .i64 (qs.length:Int)),(13, .int .i64 ((0:Nat):Int))]) ?_ rfl
 refine bm I (fun i=>qs.length- i) ?_ qs.length 0 _ s1 (by simp) ⟨Mod.refl _ _,Nat.zero_le _,rfl⟩
 rintro i L s2 ⟨hm2,hi,rfl⟩
 refine uG ?_
 refine uJ [0,5,11,12,13,14] ?_
 refine ae rfl rfl (fun hc2=>?_) (fun hc2=>?_)
 ·simp at hc2
  obtain⟨q,hq⟩:∃q,qs[i]? =some q:=⟨_,List.getElem?_eq_getElem (by omega)⟩
  obtain⟨b5,off5,c5,x5,t5,n5,e5,_,k2,k3⟩:=(hw.mod hm2 (fun _ _ h=>h)).at (i:=i) (r:=wrt q) (by simp[hq])
  rw[List.length_map] at e5
  cases e5
  obtain⟨cc2,hcc,_⟩:=eo (cs:=wrt q) (zs:=[.str ⟨0,0⟩, .str ⟨0,0⟩, .bool false]) rfl
  have hfl:=List.length_filter_le (fun w:Str×Str×Bool=>(pY (lkA m.st.all w.1) 1099511627776).2|| !w.2.2) (qs.take i)
  have htl:(qs.take i).length≤i:=by rw[List.length_take];exact Nat.min_le_left _ _
  generalize hfil:((qs.take i).filter fun w=>(pY (lkA m.st.all w.1) 1099511627776).2|| !w.2.2).length=k at*
  (repeat(first|refine uS ?_ |refine aa rfl ?_));refine ad (by simp(disch:=omega) only[uB,uT,aT cM ct,cG lx rfl ct k2 k3,Int.toNat_natCast,bS jE rfl,AV.cells,pE hcc];exact rfl) ?_;(repeat(first|refine uS ?_ |refine aa rfl ?_))
  refine dG hcc fun s3 hn3 hm3 g3=>?_
  have hm13:Am.Mod No s1 s3:=hm2.trans hm3 (fun _ _ h=>h)
  have h3:=h'.no hm13
  obtain⟨c2,hst⟩:=h3.sp
  refine aV [(0,none),(1,none),(2,none),(3,none),(4,none),(5,none),(6,some [false,true,false,true,true,true]),(7,none),(8,none),(9,none),(10,some [true,false,false,false,false,false,false]),(11,some [false])] (by kernel_rfl) (by kernel_rfl) (by simp(disch:=omega) only[uB,uT,Nat.reduceEqDiff,↓reduceIte,uD,mask,aC,aA,bN,eD,Nat.zero_add,aj dw rfl dp h3.hmb c2,jm,g3.ld (i:=0) rfl aE rfl aF];exact rfl) ?_
  refine cH (A9 ho.get hst hk (t:=1099511627776) (k:=q.1)) ?_ ?_
  ·rintro r s4 ⟨s4',e,hm4⟩
   cases e
   have hm14:=hm13.trans hm4 (fun _ _ h=>h)
   have g4:=g3.no hm4
   have h4:=h3.no hm4
   generalize hv:pY (lkA m.st.all q.1) 1099511627776=v at*
   have htk:(List.filter (fun w:Str×Str×Bool=>(pY (lkA m.st.all w.1) 1099511627776).2|| !w.2.2) (qs.take (i+1))).length=if(v.2|| !q.2.2)=true then k+1 else k:=by
    rw[List.take_add_one,hq,List.filter_append,List.length_append,hfil]
    simp only[Option.toList,List.filter_cons,List.filter_nil,hv]
    cases(v.2|| !q.2.2)<;>rfl
   refine⟨_,(by simp(disch:=omega) only[uB,uT,Nat.reduceEqDiff,↓reduceIte,uE,aC,aA,bN,eD,Nat.zero_add,aj dw rfl dp h4.hmb c2,jm,g4.ld (i:=0) rfl aE rfl aF];exact rfl),?_⟩
   cases hv2:v.2 with
   |true=>
    rw[hv2] at htk
    repeat(first|refine uS ?_ |refine aa rfl ?_ |refine ad (by simp(disch:=omega) only[uB,uT,hv2,aQ];exact rfl) ?_)
    refine uJ [0,5,11,12,13,32] ?_
    refine ae rfl rfl (fun hc3=>?_) (fun hc3=>?_)
    ·refine uG ?_
     exact aM (i+1) [(0, .ptr (some (y.mb,0))),(5, .int .i64 ((k+1:Nat):Int)),(11, .slc (some (b5,off5,3)) qs.length cc xx),(12, .int .i64 (qs.length:Int)),(13, .int .i64 ((i+1:Nat):Int))] ⟨hm14,by omega,by rw[htk];rfl⟩ (by show qs.length- (i+1)<qs.length- i;omega) (by simp[aI,aD])
    ·cases hc3
   |false=>
    rw[hv2] at htk
    repeat(first|refine uS ?_ |refine aa rfl ?_ |refine ad (by simp(disch:=omega) only[uB,uT,hv2,lC,Nat.zero_add,g4.ld (i:=2) rfl nf rfl eI];exact rfl) ?_)
    refine uJ [0,5,11,12,13,32] ?_
    refine ae rfl rfl (fun hc3=>?_) (fun hc3=>?_)
    ·refine uG ?_
     exact aM (i+1) [(0, .ptr (some (y.mb,0))),(5, .int .i64 ((k+1:Nat):Int)),(11, .slc (some (b5,off5,3)) qs.length cc xx),(12, .int .i64 (qs.length:Int)),(13, .int .i64 ((i+1:Nat):Int))] ⟨hm14,by omega,by rw[htk,hc3];rfl⟩ (by show qs.length- (i+1)<qs.length- i;omega) (by simp[aI,aD])
    ·refine uG ?_
     exact aM (i+1) [(0, .ptr (some (y.mb,0))),(5, .int .i64 ((k:Nat):Int)),(11, .slc (some (b5,off5,3)) qs.length cc xx),(12, .int .i64 (qs.length:Int)),(13, .int .i64 ((i+1:Nat):Int))] ⟨hm14,by omega,by rw[htk,hc3];rfl⟩ (by show qs.length- (i+1)<qs.length- i;omega) (by simp[aI,aD])
  ·rintro r s' ⟨_,e,_⟩
   cases e
 ·simp at hc2
  have:i=qs.length:=by omega
  subst this
  refine uG ?_
  refine ai rfl ?_
  rw[List.take_length]
  exact⟨s2,rfl,hm1.trans hm2 (fun _ _ h=>h)⟩
end
end Go.Proofs.Ytofohkdkpbigiaa
end
