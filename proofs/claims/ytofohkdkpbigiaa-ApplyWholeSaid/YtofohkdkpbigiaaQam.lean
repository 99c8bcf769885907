/-
  A part of the texts.
-/
import Derived.Test.YtofohkdkpbigiaaQal
section
namespace Go.Am
abbrev Prs:=List (Str×Str)
def Srt (l:Prs):Prop:=l.Pairwise fun a b=>a.1.lt b.1=true
structure Rt (ps:List Prs):Prop where
 one:∀p∈ps,p≠[]
 few:∀p∈ps,p.length≤8
 srt:Srt ps.flatten
theorem iH {ps:List Prs}{i:Nat}{p:Prs}(h:ps[i]? =some p):ps.flatten=(ps.take i).flatten++(p++(ps.drop (i+1)).flatten):=by
 obtain⟨hi,rfl⟩:=List.getElem?_eq_some_iff.mp h
 have e:=(List.take_append_drop i ps).symm
 rw[List.drop_eq_getElem_cons hi] at e
 have e2:=congrArg List.flatten e
 simpa only[List.flatten_append,List.flatten_cons] using e2
theorem Eb {ps:List Prs}(h:Srt ps.flatten){i j:Nat}{p:Prs}{x:Str×Str}(hp:ps[i]? =some p)(hx:p[j]? =some x){q:Str×Str}(hq:q∈(ps.take i).flatten++p.take j):q.1.lt x.1=true:=by
 rw[iH hp] at h
 obtain⟨hj,rfl⟩:=List.getElem?_eq_some_iff.mp hx
 have e:(ps.take i).flatten++(p++(ps.drop (i+1)).flatten)=((ps.take i).flatten++p.take j)++(p[j]::(p.drop (j+1)++(ps.drop (i+1)).flatten)):=by
  have e:=(List.take_append_drop j p).symm
  rw[List.drop_eq_getElem_cons hj] at e
  have e2:=congrArg (fun l=>l++(ps.drop (i+1)).flatten) e
  simp only[List.append_assoc,List.cons_append] at e2
  rw[e2];simp only[List.append_assoc]
 rw[e] at h
 exact(List.pairwise_append.mp h).2.2 q hq p[j] (by simp)
theorem Ip {ps:List Prs}{n:Nat}(h:n<ps.length)(q:Prs):(ps.set n q).flatten=(ps.take n).flatten++(q++(ps.drop (n+1)).flatten):=by
 have:=iH (ps:=ps.set n q) (i:=n) (p:=q) (by rw[List.getElem?_set];simp[h])
 rw[this,List.take_set_of_le (Nat.le_refl n),List.drop_set_of_lt (Nat.lt_succ_self n)]
theorem Fi {ps:List Prs}{n:Nat}(h:n<ps.length)(q r:Prs):((ps.set n q).take (n+1)++[r]++(ps.set n q).drop (n+1)).flatten=(ps.take n).flatten++((q++r)++(ps.drop (n+1)).flatten):=by
 rw[List.take_succ_eq_append_getElem (by simpa using h),List.take_set_of_le (Nat.le_refl n),List.drop_set_of_lt (Nat.lt_succ_self n)]
 simp
theorem DZ {A B:Prs}{k v:Str}(h:Srt (A++B))(ha:∀a∈A,a.1.lt k=true)(hb:∀b∈B,k.lt b.1=true):Srt (A++(k,v)::B):=by
 obtain⟨h1,h2,h3⟩:=List.pairwise_append.mp h
 refine List.pairwise_append.mpr ⟨h1,List.pairwise_cons.mpr ⟨fun b hb'=>hb b hb',h2⟩,fun a ha' b hb'=>?_⟩
 rcases List.mem_cons.mp hb' with rfl|hb'
 ·exact ha a ha'
 ·exact h3 a ha' b hb'
def ofJ (ps:List Prs)(k:Str)(j:Nat):Prop:=j≤ps.length∧(0<j→∃q r,ps[j- 1]? =some (q::r)∧k.lt q.1=false)∧(j<ps.length→∃q r,ps[j]? =some (q::r)∧k.lt q.1=true)
def atJ (p:Prs)(k:Str)(j:Nat):Prop:=j≤p.length∧(0<j→∃q,p[j- 1]? =some q∧q.1.lt k=true)∧(j<p.length→∃q,p[j]? =some q∧q.1.lt k=false)
def Ay (p:Prs)(k:Str)(j:Nat):Bool:=match p[j]? with
 |some q=>q.1.beq k
 |none=>false
theorem rW {a b c:Str}(h:a.lt b=true)(h':c.lt b=false):a.lt c=true:=by
 rcases Str.total (a:=b) (b:=c) with h2|h2|h2
 ·exact Str.lt_trans h h2
 ·rw[←h2];exact h
 ·rw[h2] at h';cases h'
theorem FB {a b:Str}(h:a.lt b=false)(hn:a≠b):b.lt a=true:=by
 rcases Str.total (a:=a) (b:=b) with h2|h2|h2
 ·rw[h2] at h;cases h
 ·exact absurd h2 hn
 ·exact h2
theorem place {ps:List Prs}(h:Rt ps){k:Str}{j i:Nat}{p:Prs}(hn:∀q∈ps.flatten,q.1≠k)(hj:ofJ ps k j)(hp:ps[j- 1]? =some p)(hi:atJ p k i):
  (∀a∈(ps.take (j- 1)).flatten++p.take i,a.1.lt k=true)∧(∀b∈p.drop i++(ps.drop (j- 1+1)).flatten,k.lt b.1=true):=by
 have hpm:∀ {i:Nat} {q},ps[i]? =some q→q∈ps:=fun hq=>List.mem_of_getElem? hq
 have hin:∀ {i:Nat} {q:Prs} {x},ps[i]? =some q→x∈q→x∈ps.flatten:=fun hq hx=>List.mem_flatten.mpr ⟨_,hpm hq,hx⟩
 have hs:=h.srt
 rw[iH hp] at hs
 obtain⟨s1,s2,s3⟩:=List.pairwise_append.mp hs
 obtain⟨s4,s5,s6⟩:=List.pairwise_append.mp s2
 obtain⟨j1,j2,j3⟩:=hj
 obtain⟨i1,i2,i3⟩:=hi
 refine⟨fun a ha=>?_,fun b hb=>?_⟩
 ·rcases List.mem_append.mp ha with ha1|ha1
  ·have hj0:0<j:=by
    rcases Nat.eq_zero_or_pos j with e|e
    ·subst e;simp at ha1
    ·exact e
   obtain⟨q,r,hq,hk⟩:=j2 hj0
   rw[hp] at hq;cases hq
   exact rW (s3 a ha1 q (by simp)) hk
  ·have hi0:0<i:=by
    rcases Nat.eq_zero_or_pos i with e|e
    ·subst e;simp at ha1
    ·exact e
   obtain⟨q,hq,hk⟩:=i2 hi0
   obtain⟨m,hm,e⟩:=List.getElem_of_mem ha1
   have hm':m<i:=by simp at hm;omega
   rcases Nat.lt_or_ge m (i- 1) with hlt|hge
   ·have:=List.pairwise_iff_getElem.mp s4 m (i- 1) (by omega) (by omega) hlt
    obtain⟨hq1,hq2⟩:=List.getElem?_eq_some_iff.mp hq
    rw[List.getElem_take] at e
    rw[←e]
    rw[hq2] at this
    exact Str.lt_trans this hk
   ·have hmi:m=i- 1:=by omega
    subst hmi
    obtain⟨hq1,hq2⟩:=List.getElem?_eq_some_iff.mp hq
    rw[List.getElem_take] at e
    rw[←e,hq2];exact hk
 ·have hfirst:∀x∈p,(j=0→k.lt x.1=true):=fun x hx hj0=>by
   subst hj0
   have hl:0<ps.length:=(List.getElem?_eq_some_iff.mp hp).1
   obtain⟨q,r,hq,hk⟩:=j3 hl
   simp only[Nat.zero_sub] at hp
   rw[hp] at hq;cases hq
   rcases List.mem_cons.mp hx with rfl|hx
   ·exact hk
   ·exact Str.lt_trans hk ((List.pairwise_cons.mp s4).1 x hx)
  rcases List.mem_append.mp hb with hb|hb
  ·obtain⟨m,hm,e⟩:=List.getElem_of_mem hb
   rw[List.getElem_drop] at e
   simp only[List.length_drop] at hm
   obtain⟨q,hq,hk⟩:=i3 (by omega)
   obtain⟨hq1,hq2⟩:=List.getElem?_eq_some_iff.mp hq
   have hkq:k.lt q.1=true:=FB hk (hn q (hin hp (by rw[←hq2];exact List.getElem_mem _)))
   rcases Nat.eq_zero_or_pos m with e0|e0
   ·subst e0;simp only[Nat.add_zero] at e;rw[←e,hq2];exact hkq
   ·have:=List.pairwise_iff_getElem.mp s4 i (i+m) (by omega) (by omega) (by omega)
    rw[hq2,e] at this
    exact Str.lt_trans hkq this
  ·rcases Nat.eq_zero_or_pos j with e|e
   ·have hne:=h.one p (hpm hp)
    obtain⟨x,hx⟩:=List.exists_mem_of_ne_nil p hne
    exact Str.lt_trans (hfirst x hx e) (s6 x hx b hb)
   ·rw[show j- 1+1=j by omega] at hb
    have hjl:j<ps.length:=by
     rcases Nat.lt_or_ge j ps.length with q|q
     ·exact q
     ·rw[List.drop_eq_nil_of_le q] at hb;simp at hb
    obtain⟨q,r,hq,hk⟩:=j3 hjl
    rw[show j- 1+1=j by omega] at s5
    obtain⟨hq1,hq2⟩:=List.getElem?_eq_some_iff.mp hq
    rw[List.drop_eq_getElem_cons hjl,hq2] at hb s5
    simp only[List.flatten_cons,List.cons_append,List.mem_cons] at hb
    rcases hb with rfl|hb
    ·exact hk
    ·simp only[List.flatten_cons,List.cons_append] at s5
     exact Str.lt_trans hk ((List.pairwise_cons.mp s5).1 b hb)
end Go.Am
end
section
namespace Go.Proofs.Ytofohkdkpbigiaa
open Go.Am
set_option maxRecDepth 10000
set_option maxHeartbeats 1000000
set_option linter.unusedSimpArgs false
structure Pgs (s:St)(F:Nat→Prop)(v:AV)(ps:List (List (Str×Str))):Prop where
 ex:∃vs:List AV,vs.length=ps.length∧Sli s v 1 (vs.map fun u=>[u])∧(∀b,blk v=some b→F b)∧∀ (i:Nat) u p,vs[i]? =some u→ps[i]? =some p→Sli s u 2 (p.map pr)∧∀b,blk u=some b→F b
theorem Pgs.mod {B F:Nat→Prop}{s t:St}{v:AV}{ps:List (List (Str×Str))}(h:Pgs s F v ps)(hm:Mod B s t)(hF:∀b,F b→¬B b):Pgs t F v ps:=by
 obtain⟨vs,h1,h2,h3,h4⟩:=h.ex
 exact⟨vs,h1,h2.mod hm fun b hb=>hF b (h3 b hb),h3,fun i u p hu hp=>⟨(h4 i u p hu hp).1.mod hm fun b hb=>hF b ((h4 i u p hu hp).2 b hb),(h4 i u p hu hp).2⟩⟩
theorem Pgs.no {F:Nat→Prop}{s t:St}{v:AV}{ps:List (List (Str×Str))}(h:Pgs s F v ps)(hm:Mod No s t):Pgs t F v ps:=h.mod hm fun _ _ h=>h
theorem Pgs.slc {F:Nat→Prop}{s:St}{v:AV}{ps:List (List (Str×Str))}(h:Pgs s F v ps):∃a c x,v= .slc a ps.length c x:=by
 obtain⟨vs,h1,h2,h3,h4⟩:=h.ex
 obtain⟨a,c,x,e,_⟩:=h2.ex
 exact⟨a,c,x,by rw[e];simp[h1]⟩
theorem Pgs.at {F:Nat→Prop}{s:St}{v:AV}{ps:List (List (Str×Str))}(h:Pgs s F v ps){i:Nat}{p:List (Str×Str)}(hp:ps[i]? =some p):
  ∃b off t n c x u,v= .slc (some (b,off,1)) ps.length c x∧s.h.get b=some (.cells t n)∧t.get (off+i)=some u∧Sli s u 2 (p.map pr)∧∀b,blk u=some b→F b:=by
 obtain⟨vs,h1,h2,h3,h4⟩:=h.ex
 obtain⟨a,c,x,rfl,h5⟩:=h2.ex
 have hi:i<ps.length:=(List.getElem?_eq_some_iff.mp hp).1
 have hv:vs[i]? =some vs[i]:=List.getElem?_eq_getElem (by omega)
 obtain⟨b,off,t,n,rfl,k1,k2,k3⟩:=h5 (by intro e;simp at e;subst e;simp at h1;omega)
 have:=k3 i [vs[i]] (by simp[hv])
 obtain⟨_,k4⟩:=aR.mp this
 have k5:=k4 0 vs[i] rfl
 simp only[Nat.mul_one,Nat.add_zero] at k5
 exact⟨b,off,t,n,c,x,vs[i],by simp[h1],k2,k5,h4 i _ p hv hp⟩
theorem ll {s:St}{v:AV}{p:List (Str×Str)}(h:Sli s v 2 (p.map pr)){i:Nat}{q:Str×Str}(hq:p[i]? =some q):
  ∃b off t n c x,v= .slc (some (b,off,2)) p.length c x∧s.h.get b=some (.cells t n)∧t.get (off+i*2)=some (.str q.1)∧t.get (off+i*2+1)=some (.str q.2)∧ldL t (off+i*2) 2=some (pr q):=by
 obtain⟨a,c,x,rfl,h5⟩:=h.ex
 obtain⟨b,off,t,n,rfl,k1,k2,k3⟩:=h5 (by intro e;simp at e;subst e;simp at hq)
 have:=k3 i (pr q) (by simp[hq])
 obtain⟨_,k4⟩:=aR.mp this
 exact⟨b,off,t,n,c,x,by simp,k2,k4 0 _ rfl,k4 1 _ rfl,this⟩
section
variable {O:bj}
theorem Om:X.fns.get 63=some Try.f63:=by kernel_rfl
theorem Ot:X.fns.get 43=some Try.f43:=by kernel_rfl
theorem M7:X.fns.get 94=some Try.f94:=by kernel_rfl
theorem Pq:X.fns.get 88=some Try.f88:=by kernel_rfl
theorem eu {b off:Nat}:af X 93 (.ptr (some (b,off))) 0=some (.pure (.ptr (some (b,off)))):=by
 simp only[af,nS,bh,List.getElem?_cons_zero,aF,Nat.add_zero]
theorem GA (ho:O 63=none){s:St}{F:Nat→Prop}{v:AV}{ps:List (List (Str×Str))}(h:Pgs s F v ps){k:Str}{i:Nat}{q:Str×Str}{r:List (Str×Str)}(hi:ps[i]? =some (q::r)){b1 b2 n1 n2:Nat}{t1 t2:Tr AV}(g1:s.h.get b1=some (.cells t1 n1))(g2:s.h.get b2=some (.cells t2 n2))(g3:t1.get 0=some v)(g4:t2.get 0=some (.str k)):
  Ca X O (.fn 63) [.int .i64 (i:Int), .ptr (some (b1,0)), .ptr (some (b2,0))] s fun z=>z= .ret (.bool (k.lt q.1)) s:=by
 obtain⟨b,off,t,n,c,x,u,rfl,k1,k2,k3,k4⟩:=h.at hi
 obtain⟨b',off',t',n',c',x',rfl,l1,l2,l3,l4⟩:=ll (i:=0) (q:=q) k3 (by simp)
 have hlt:i<ps.length:=(List.getElem?_eq_some_iff.mp hi).1
 have hl0:0<(q::r).length:=by simp
 simp only[Nat.zero_mul,Nat.add_zero] at l2
 refine bb ho Om rfl ?_
 unfold aD aD aD aD
 refine uG ?_
 refine aU [(0,none),(1,none),(2,none),(3,none),(4,none),(5,none),(6,none),(7,none),(8,none),(9,some [false,false,false,false,false,false,false,false,false])] (by kernel_rfl) (by kernel_rfl) (by simp(disch:=omega) only[uB,uT,Nat.reduceEqDiff,↓reduceIte,uD,mask,aC,aB,aQ bV bM,aQ bE bW,ah bV rfl iq g1 g3,ah aE rfl aF g2 g4,ah bE rfl bM k1 k2,eu,ah aE rfl aF l1 l2,Int.toNat_natCast,Int.toNat_zero,Nat.zero_mul,Nat.mul_one,Nat.add_zero];exact rfl) ?_
 refine uH ?_
 refine ai rfl ?_
 show CR.ret (.bool (!(q.1.lt k||q.1.beq k))) s=_
 congr 2
 cases h1:q.1.lt k with
 |true=>rw[Str.lt_asymm h1];rfl
 |false=>
  cases h2:q.1.beq k with
  |true=>rw[Str.nM h2,Str.lt_irrefl];rfl
  |false=>
   have h3:=Str.beq_false.mp h2
   rcases Str.total (a:=q.1) (b:=k) with h|h|h
   ·rw[h] at h1;cases h1
   ·exact absurd h h3
   ·rw[h];rfl
theorem EC (ho:O 43=none)(ho1:O 63=none)(ho2:O 62=none){s:St}{F:Nat→Prop}{v:AV}{ps:List (List (Str×Str))}(h:Pgs s F v ps){k:Str}(hne:∀p∈ps,p≠[])(h0:ps≠[])(hl:ps.length≤1000000):
  Ca X O (.fn 43) [v, .str k] s fun z=>∃ (j:Nat) (s':St),z= .ret (.int .i64 ((j- 1:Nat):Int)) s'∧Mod No s s'∧ofJ ps k j:=by
 obtain⟨a,c,x,rfl⟩:=h.slc
 have hp0:0<ps.length:=List.length_pos_iff.mpr h0
 refine bb ho Ot rfl ?_
 unfold aD aD aD
 refine fO ?_
 refine ad (by simp(disch:=omega) only[uB,uT];exact rfl) ?_
 refine uH ?_
 refine WL.st (fun s'=>Mod No s s'∧s'.nx=s.nx+2∧s'.h.get s.nx=some (.cells (Tr.of [.slc a ps.length c x]) 1)∧s'.h.get (s.nx+1)=some (.cells (Tr.of [.str k]) 1)) ⟨((Mod.refl _ s).new _).new _,rfl,by show((s.h.put s.nx _).put (s.nx+1) _).get s.nx=_;rw[aT (by omega),bm],by show((s.h.put s.nx _).put (s.nx+1) _).get (s.nx+1)=_;rw[bm]⟩ ?_
 rintro s1 ⟨hm,hn1,g1,g2⟩
 have h1:=h.no hm
 have g3:(Tr.of [AV.slc a ps.length c x]).get 0=some (.slc a ps.length c x):=by rw[dF];rfl
 have g4:(Tr.of [AV.str k]).get 0=some (.str k):=by rw[dF];rfl
 repeat(first|refine uS ?_ |refine aa rfl ?_ |refine ad (by simp(disch:=omega) only[uB,uT,ah bV rfl iq g1 g3];exact rfl) ?_)
 let p:Nat→Bool:=fun i=>match ps[i]? with
  |some (q::_)=>k.lt q.1
  | _=>false
 have hcl:∀s' i,Mod No s1 s'→i<ps.length→Ca X O (.fn 63) ([]++[.int .i64 (i:Int)]++[.ptr (some (s.nx,0)), .ptr (some (s.nx+1,0))]) s' fun r=>∃s'',r= .ret (.bool (p i)) s''∧Mod No s' s'':=by
  intro s' i hm' hi
  obtain⟨q,r,hq⟩:∃q r,ps[i]? =some (q::r):=by
   have e:=List.getElem?_eq_getElem hi
   cases hp:ps[i] with
   |nil=>exact absurd hp (hne _ (List.getElem_mem hi))
   |cons q r=>exact⟨q,r,by rw[e,hp]⟩
  refine(GA ho1 (h1.no hm') hq ((hm'.old _ (by omega) (fun h=>h)).trans g1) ((hm'.old _ (by omega) (fun h=>h)).trans g2) g3 g4).mono fun z hz=>⟨s',?_,Mod.refl _ _⟩
  rw[hz]
  show _=CR.ret (.bool (match ps[i]? with|some (q::_)=>k.lt q.1| _=>false)) s'
  rw[hq]
 refine aj (tM ho2 p (g:=63) (a:=[]) (c:=[.ptr (some (s.nx,0)), .ptr (some (s.nx+1,0))]) rfl (by omega) hcl) ?_ ?_
 ·rintro v s' ⟨j,s2,e,hm2,hj,h2,h3⟩
  cases e
  refine uL ?_
  refine uH ?_
  refine ai rfl ?_
  have hp:∀i b,p i=b→i<ps.length→∃q r,ps[i]? =some (q::r)∧k.lt q.1=b:=fun i b hb hi=>by
   have e:=List.getElem?_eq_getElem hi
   cases hpi:ps[i] with
   |nil=>exact absurd hpi (hne _ (List.getElem_mem hi))
   |cons q r=>
    rw[hpi] at e
    refine⟨q,r,e,?_⟩
    have:(match ps[i]? with|some (q::_)=>k.lt q.1| _=>false)=b:=hb
    rw[e] at this;exact this
  refine⟨j,s',?_,hm.trans hm2 (fun _ _ h=>h),hj,fun h=>hp _ _ (h2 h) (by omega),fun h=>hp _ _ (h3 h) h⟩
  show CR.ret (.int .i64 (if(j:Int)- 1<0 then 0 else(j:Int)- 1)) s'=CR.ret (.int .i64 ((j- 1:Nat):Int)) s'
  congr 2
  by_cases e:(j:Int)- 1<0
  ·rw[if_pos e];omega
  ·rw[if_neg e];omega
 ·(intro v s' h;simp at h)
theorem Iu (ho:O 94=none){s:St}{v:AV}{p:List (Str×Str)}(h:Sli s v 2 (p.map pr)){k:Str}{i:Nat}{q:Str×Str}(hi:p[i]? =some q){b1 b2 n1 n2:Nat}{t1 t2:Tr AV}(g1:s.h.get b1=some (.cells t1 n1))(g2:s.h.get b2=some (.cells t2 n2))(g3:t1.get 0=some v)(g4:t2.get 0=some (.str k)):
  Ca X O (.fn 94) [.int .i64 (i:Int), .ptr (some (b1,0)), .ptr (some (b2,0))] s fun z=>z= .ret (.bool (!q.1.lt k)) s:=by
 obtain⟨b',off',t',n',c',x',rfl,l1,l2,l3,l4⟩:=ll h hi
 have hlt:i<p.length:=(List.getElem?_eq_some_iff.mp hi).1
 refine bb ho M7 rfl ?_
 unfold aD aD aD aD
 refine uG ?_
 refine aU [(0,none),(1,none),(2,none),(3,none),(4,none),(5,none),(6,none),(7,some [false,false,false,false,false,false,false])] (by kernel_rfl) (by kernel_rfl) (by simp(disch:=omega) only[uB,uT,Nat.reduceEqDiff,↓reduceIte,uD,mask,aC,aB,aQ bE bW,ah bE rfl bM g1 g3,ah aE rfl aF g2 g4,eu,ah aE rfl aF l1 l2,Int.toNat_natCast];exact rfl) ?_
 refine uH ?_
 refine ai rfl ?_
 rfl
theorem Ke (ho:O 88=none)(ho1:O 94=none)(ho2:O 62=none){s:St}{v:AV}{p:List (Str×Str)}(h:Sli s v 2 (p.map pr)){k:Str}(hl:p.length≤1000000):
  Ca X O (.fn 88) [v, .str k] s fun z=>∃ (j:Nat) (s':St),z= .ret (.tup [.int .i64 (j:Int), .bool (Ay p k j)]) s'∧Mod No s s'∧atJ p k j:=by
 obtain⟨a,c,x,rfl,h5⟩:=h.ex
 rw[List.length_map] at h ⊢
 refine bb ho Pq rfl ?_
 unfold aD aD aD
 refine fO ?_
 refine ad (by simp(disch:=omega) only[uB,uT];exact rfl) ?_
 refine uH ?_
 refine WL.st (fun s'=>Mod No s s'∧s'.nx=s.nx+2∧s'.h.get s.nx=some (.cells (Tr.of [.slc a p.length c x]) 1)∧s'.h.get (s.nx+1)=some (.cells (Tr.of [.str k]) 1)) ⟨((Mod.refl _ s).new _).new _,rfl,by show((s.h.put s.nx _).put (s.nx+1) _).get s.nx=_;rw[aT (by omega),bm],by show((s.h.put s.nx _).put (s.nx+1) _).get (s.nx+1)=_;rw[bm]⟩ ?_
 rintro s1 ⟨hm,hn1,g1,g2⟩
 have h1:=h.mod hm (fun _ _ h=>h)
 have g3:(Tr.of [AV.slc a p.length c x]).get 0=some (.slc a p.length c x):=by rw[dF];rfl
 have g4:(Tr.of [AV.str k]).get 0=some (.str k):=by rw[dF];rfl
 repeat(first|refine uS ?_ |refine aa rfl ?_ |refine ad (by simp(disch:=omega) only[uB,uT,ah bE rfl bM g1 g3];exact rfl) ?_)
 let f:Nat→Bool:=fun i=>match p[i]? with
  |some q=> !q.1.lt k
  |none=>false
 have hcl:∀s' i,Mod No s1 s'→i<p.length→Ca X O (.fn 94) ([]++[.int .i64 (i:Int)]++[.ptr (some (s.nx,0)), .ptr (some (s.nx+1,0))]) s' fun r=>∃s'',r= .ret (.bool (f i)) s''∧Mod No s' s'':=by
  intro s' i hm' hi
  have hq:=List.getElem?_eq_getElem hi
  refine(Iu ho1 (h1.mod hm' (fun _ _ h=>h)) hq ((hm'.old _ (by omega) (fun h=>h)).trans g1) ((hm'.old _ (by omega) (fun h=>h)).trans g2) g3 g4).mono fun z hz=>⟨s',?_,Mod.refl _ _⟩
  rw[hz]
  show _=CR.ret (.bool (match p[i]? with|some q=> !q.1.lt k|none=>false)) s'
  rw[hq]
 refine aj (tM ho2 f (g:=94) (a:=[]) (c:=[.ptr (some (s.nx,0)), .ptr (some (s.nx+1,0))]) rfl (by omega) hcl) ?_ ?_
 ·rintro v s' ⟨j,s2,e,hm2,hj,h2,h3⟩
  cases e
  have g1':=(hm2.old _ (by omega) (fun h=>h)).trans g1
  have g2':=(hm2.old _ (by omega) (fun h=>h)).trans g2
  have h2':=h1.mod hm2 (fun _ _ h=>h)
  have hf:∀i b,f i=b→i<p.length→∃q,p[i]? =some q∧q.1.lt k= !b:=fun i b hb hi=>by
   have e:=List.getElem?_eq_getElem hi
   refine⟨p[i],e,?_⟩
   have:(match p[i]? with|some q=> !q.1.lt k|none=>false)=b:=hb
   rw[e] at this;rw[←this,Bool.not_not]
  have hJ:atJ p k j:=⟨hj,fun h=>hf _ _ (h2 h) (by omega),fun h=>hf _ _ (h3 h) h⟩
  refine uL ?_
  refine uH ?_
  by_cases hlt:j<p.length
  ·obtain⟨b',off',t',n',c',x',e',l1,l2,l3,l4⟩:=ll h2' (List.getElem?_eq_getElem hlt)
   cases e'
   have hd:decide ((j:Int)<(p.length:Int))=true:=by simpa using hlt
   refine aU [(0,none),(1,none),(2,none),(3,none),(4,none),(5,none),(6,none),(7,none),(8,none),(9,none),(10,none),(11,none),(12,none),(13,none),(14,some [true,true,true,true,true,true,true,true,false,true,true,true,true,false]),(15,some [false,false,false,false,false,false,false,false,false,false,false,false])] (by kernel_rfl) (by kernel_rfl) (by simp(disch:=omega) only[uB,uT,Nat.reduceEqDiff,↓reduceIte,uD,mask,aC,aB,ah bE rfl bM g1' g3,ah aE rfl aF g2' g4,aQ bE bW,eu,ah aE rfl aF l1 l2,Int.toNat_natCast,hd];exact rfl) ?_
   refine uH ?_
   refine ai rfl ?_
   refine⟨j,s',?_,hm.trans hm2 (fun _ _ h=>h),hJ⟩
   simp[eV,Ay,hlt]
  ·have hd:decide ((j:Int)<(p.length:Int))=false:=by simp;omega
   refine aU [(0,none),(1,none),(2,none),(3,none),(4,none),(5,none),(6,none),(7,none),(8,none),(9,none),(10,none),(11,none),(12,none),(13,none),(14,some [true,true,true,true,true,true,true,true,false,true,true,true,true,false]),(15,some [false,false,false,false,false,false,false,false,false,false,false,false])] (by kernel_rfl) (by kernel_rfl) (by simp(disch:=omega) only[uB,uT,Nat.reduceEqDiff,↓reduceIte,uD,mask,aC,aB,ah bE rfl bM g1' g3,ah aE rfl aF g2' g4,hd,aP];exact rfl) ?_
   refine uH ?_
   refine ai rfl ?_
   refine⟨j,s',?_,hm.trans hm2 (fun _ _ h=>h),hJ⟩
   simp[eV,Ay,hlt]
 ·(intro v s' h;simp at h)
end
end Go.Proofs.Ytofohkdkpbigiaa
end
section
namespace Go.Proofs.Ytofohkdkpbigiaa
open Go.Am
set_option maxRecDepth 10000
set_option maxHeartbeats 1000000
set_option linter.unusedSimpArgs false
section
variable {O:bj}
theorem IT:X.fns.get 42=some Try.f42:=by kernel_rfl
theorem Gd:X.fns.get 87=some Try.f87:=by kernel_rfl
theorem rh {b m x:Nat}{c c':Tr AV}{u w:Str}{t0:Tr AB}{g:Tr (Tr AV)}{sh:List Nat}(hs:stL [.str u, .str w] 0 c=some c'):cK X 93 (.ptr (some (b,0))) (.agg [.str u, .str w]) {h:=t0.put b (.cells c m),nx:=x,gl:=g,sh:=sh}=some (.val (.tup []) {h:=(t0.put b (.cells c m)).put b (.cells c' m),nx:=x,gl:=g,sh:=sh}):=
 dC bW rfl rfl hs
theorem wo (ho:O 42=none){s:St}{F:Nat→Prop}{v:AV}{ps:List Prs}(h:Pgs s F v ps)(hr:Rt ps)(hl:ps.length≤1000000):
  Ca X O (.fn 42) [v] s fun z=>∃s',z= .ret (.bool true) s'∧Mod No s s':=by
 obtain⟨a,c,x,rfl⟩:=h.slc
 refine bb ho IT rfl ?_
 unfold aD aD
 refine uG ?_
 let I:Nat×Str×Bool→Sl→St→Prop:=fun y L s'=>Mod No s s'∧y.1≤ps.length∧(y.2.2=false∨∃q∈(ps.take y.1).flatten,y.2.1=q.1)∧L=[(3, .str y.2.1),(4, .bool y.2.2),(9, .slc a ps.length c x),(10, .int .i64 (ps.length:Int)),(11, .int .i64 (y.1:Int))]
 refine WL.less (M:=[(3, .str ⟨0,0⟩),(4, .bool false),(9, .slc a ps.length c x),(10, .int .i64 (ps.length:Int)),(11, .int .i64 ((0:Nat):Int))]) ?_ rfl
 refine aV I (fun y=>ps.length- y.1) ?_ ps.length (0,⟨0,0⟩,false) _ s (by simp) ⟨Mod.refl _ _,Nat.zero_le _, .inl rfl,rfl⟩
 rintro⟨i,la,sm⟩ L s1 ⟨hm,hi,hs,rfl⟩
 simp only at hi hs ⊢
 refine uG ?_
 refine uJ [3,4,9,10,11,12] ?_
 refine ae rfl rfl (fun hc=>?_) (fun hc=>?_)
 ·simp at hc
  have hpi:=List.getElem?_eq_getElem hc
  have hpm:ps[i]∈ps:=List.getElem_mem hc
  obtain⟨b,off,t,n,c',x',u,e,k1,k2,k3,k4⟩:=(h.no hm).at hpi
  cases e
  obtain⟨a2,c2,x2,rfl,_⟩:=k3.ex
  rw[List.length_map] at k2 k3
  have h8:=hr.few _ hpm
  have h1:0<ps[i].length:=List.length_pos_iff.mpr (hr.one _ hpm)
  have d1:decide (((ps[i]).length:Int)<1)=false:=by simp;omega
  have d2:decide ((8:Int)<((ps[i]).length:Int))=false:=by simp;omega
  repeat(first|refine uS ?_ |refine aa rfl ?_ |refine ad (by simp(disch:=omega) only[uB,uT,aQ bV bM,ah bE rfl bM k1 k2,Int.toNat_natCast,Nat.mul_one,d1,d2];exact rfl) ?_)
  refine uJ [3,4,6,9,10,11,22] ?_
  refine ae rfl rfl (fun hc'=>?_) (fun hc'=>?_)
  ·cases hc'
  ·refine uG ?_
   let J:Nat×Str×Bool→Sl→St→Prop:=fun y L s'=>Mod No s1 s'∧y.1≤ps[i].length∧(y.2.2=false∨∃q∈(ps.take i).flatten++ps[i].take y.1,y.2.1=q.1)∧L=[(3, .str y.2.1),(4, .bool y.2.2),(9, .slc (some (b,off,1)) ps.length c x),(10, .int .i64 (ps.length:Int)),(11, .int .i64 (i:Int)),(23, .slc a2 ps[i].length c2 x2),(24, .int .i64 (ps[i].length:Int)),(25, .int .i64 (y.1:Int))]
   refine WL.less (M:=[(3, .str la),(4, .bool sm),(9, .slc (some (b,off,1)) ps.length c x),(10, .int .i64 (ps.length:Int)),(11, .int .i64 (i:Int)),(23, .slc a2 ps[i].length c2 x2),(24, .int .i64 (ps[i].length:Int)),(25, .int .i64 ((0:Nat):Int))]) ?_ rfl
   refine aV J (fun y=>ps[i].length- y.1) ?_ ps[i].length (0,la,sm) _ s1 (by simp) ⟨Mod.refl _ _,Nat.zero_le _,hs.imp id fun⟨q,hq,e⟩=>⟨q,by simpa using hq,e⟩,rfl⟩
   rintro⟨j,la',sm'⟩ L s2 ⟨hm2,hj,hs2,rfl⟩
   simp only at hj hs2 ⊢
   refine uG ?_
   refine uJ [3,4,9,10,11,23,24,25,26] ?_
   refine ae rfl rfl (fun hc2=>?_) (fun hc2=>?_)
   ·simp at hc2
    have hx:=List.getElem?_eq_getElem hc2
    obtain⟨b',off',t',n',c3,x3,e3,l1,l2,l3,l4⟩:=ll (k3.mod hm2 (fun _ _ h=>h)) hx
    cases e3
    obtain⟨c4,hc4,g4⟩:=ej (cs:=[.str (ps[i][j]).1, .str (ps[i][j]).2]) (zs:=[.str ⟨0,0⟩, .str ⟨0,0⟩]) rfl
    have g0:=g4 0 _ rfl
    (repeat(first|refine uS ?_ |refine aa rfl ?_));refine ad (by simp(disch:=omega) only[uB,uT,aQ bE bW,cE nS rfl bW l1 l4,Int.toNat_natCast,bQ lC rfl,AV.cells,pr,rh hc4];exact rfl) ?_;(repeat(first|refine uS ?_ |refine aa rfl ?_))
    refine WL.st (fun s'=>Mod No s2 s'∧s'.h.get s2.nx=some (.cells c4 2)) ⟨((Mod.refl _ s2).new _).put _ (.inl (Nat.le_refl _)) (Nat.lt_succ_self _),bm⟩ ?_
    rintro s3 ⟨hm3,g5⟩
    have hmem:ps[i][j]∈(ps.take i).flatten++ps[i].take (j+1):=by
     refine List.mem_append_right _ ?_
     rw[List.take_succ_eq_append_getElem hc2];exact List.mem_append_right _ (List.mem_singleton.mpr rfl)
    rcases hs2 with rfl|⟨q,hq,rfl⟩
    ·(repeat(first|refine uS ?_ |refine aa rfl ?_));refine ad (by simp(disch:=omega) only[uB,uT];exact rfl) ?_;(repeat(first|refine uS ?_ |refine aa rfl ?_))
     refine uJ [3,4,8,9,10,11,23,24,25,35] ?_
     refine ae rfl rfl (fun hc3=>?_) (fun hc3=>?_)
     ·cases hc3
     ·repeat(first|refine uS ?_ |refine aa rfl ?_ |refine ad (by simp(disch:=omega) only[uB,uT,eu,ah aE rfl aF g5 g0];exact rfl) ?_)
      refine aH (j+1,(ps[i][j]).1,true) _ ⟨hm2.trans hm3 (fun _ _ h=>h),by simp only;omega, .inr ⟨_,hmem,rfl⟩,rfl⟩ (by simp only;omega) (by simp[aI,az])
    ·have hlt:=Eb hr.srt hpi hx hq
     have e1:(ps[i][j]).1.lt q.1=false:=Str.lt_asymm hlt
     have e2:(ps[i][j]).1.beq q.1=false:=Str.beq_false.mpr fun e=>Str.ne_of_lt hlt e.symm
     cases sm' with
     |false=>
      (repeat(first|refine uS ?_ |refine aa rfl ?_));refine ad (by simp(disch:=omega) only[uB,uT];exact rfl) ?_;(repeat(first|refine uS ?_ |refine aa rfl ?_))
      refine uJ [3,4,8,9,10,11,23,24,25,35] ?_
      refine ae rfl rfl (fun hc3=>?_) (fun hc3=>?_)
      ·cases hc3
      ·repeat(first|refine uS ?_ |refine aa rfl ?_ |refine ad (by simp(disch:=omega) only[uB,uT,eu,ah aE rfl aF g5 g0];exact rfl) ?_)
       refine aH (j+1,(ps[i][j]).1,true) _ ⟨hm2.trans hm3 (fun _ _ h=>h),by simp only;omega, .inr ⟨_,hmem,rfl⟩,rfl⟩ (by simp only;omega) (by simp[aI,az])
     |true=>
      (repeat(first|refine uS ?_ |refine aa rfl ?_));refine ad (by simp(disch:=omega) only[uB,uT,eu,ah aE rfl aF g5 g0,e1,e2,Bool.or_self];exact rfl) ?_;(repeat(first|refine uS ?_ |refine aa rfl ?_))
      refine uJ [3,4,8,9,10,11,23,24,25,35] ?_
      refine ae rfl rfl (fun hc3=>?_) (fun hc3=>?_)
      ·cases hc3
      ·repeat(first|refine uS ?_ |refine aa rfl ?_ |refine ad (by simp(disch:=omega) only[uB,uT,eu,ah aE rfl aF g5 g0];exact rfl) ?_)
       refine aH (j+1,(ps[i][j]).1,true) _ ⟨hm2.trans hm3 (fun _ _ h=>h),by simp only;omega, .inr ⟨_,hmem,rfl⟩,rfl⟩ (by simp only;omega) (by simp[aI,az])
   ·simp at hc2
    obtain rfl:j=ps[i].length:=by omega
    refine uG ?_
    refine aH (i+1,la',sm') [(3, .str la'),(4, .bool sm'),(9, .slc (some (b,off,1)) ps.length c x),(10, .int .i64 (ps.length:Int)),(11, .int .i64 ((i+1:Nat):Int))] ⟨hm.trans hm2 (fun _ _ h=>h),by simp only;omega,?_,rfl⟩ (by simp only;omega) (by simp[aI,az])
    refine hs2.imp id fun⟨q,hq,e⟩=>⟨q,?_,e⟩
    rw[List.take_succ_eq_append_getElem hc,List.flatten_append,List.flatten_singleton]
    rw[List.take_length] at hq;exact hq
 ·refine uG ?_
  refine ai rfl ?_
  exact⟨s1,rfl,hm⟩
end
end Go.Proofs.Ytofohkdkpbigiaa
end
section
namespace Go.Proofs.Ytofohkdkpbigiaa
open Go.Am
set_option maxRecDepth 10000
set_option maxHeartbeats 1000000
set_option linter.unusedSimpArgs false
structure Ow (s s':St)(out:AV)(vs:List AV)(qs:List Prs):Prop where
 acc:Acc s' out 1 (vs.map fun u=>[u])
 len:vs.length=qs.length
 el:∀ (m:Nat) u p,vs[m]? =some u→qs[m]? =some p→Sli s' u 2 (p.map pr)
 fo:∀b,blk out=some b→s.nx≤b
 inn:∀u∈vs,∀b,blk u=some b→s.nx≤b∧b<s'.nx∧blk out≠some b
 apart:vs.Pairwise fun u w=>∀b,blk u=some b→blk w≠some b
theorem Ow.pgs {s s':St}{out:AV}{vs:List AV}{qs:List Prs}(h:Ow s s' out vs qs):Pgs s' (fun b=>s.nx≤b) out qs:=
 ⟨vs,h.len,h.acc.sli,h.fo,fun i u p hu hp=>⟨h.el i u p hu hp,fun b hb=>(h.inn u (List.mem_of_getElem? hu) b hb).1⟩⟩
theorem Ow.mod {B:Nat→Prop}{s s' t:St}{out:AV}{vs:List AV}{qs:List Prs}(h:Ow s s' out vs qs)(hm:Mod B s' t)(hB:∀b,s.nx≤b→b<s'.nx→¬B b):Ow s t out vs qs:=
 ⟨h.acc.mod hm fun b hb=>hB b (h.fo b hb) (h.acc.lt hb),h.len,fun m u p hu hp=>(h.el m u p hu hp).mod hm fun b hb=>let⟨a,c,_⟩:=h.inn u (List.mem_of_getElem? hu) b hb;hB b a c,h.fo,fun u hu b hb=>let⟨a,c,d⟩:=h.inn u hu b hb;⟨a,Nat.lt_of_lt_of_le c hm.nx,d⟩,h.apart⟩
section
variable {O:bj}
theorem BQ (ho:O 87=none)(ho1:O 90=none){s:St}{F:Nat→Prop}{v:AV}{ps:List Prs}(h:Pgs s F v ps)(hl:ps.length≤100000)(hl2:∀p∈ps,p.length≤1000000):
  Ca X O (.fn 87) [v] s fun z=>∃out vs s',z= .ret out s'∧Mod No s s'∧Ow s s' out vs ps:=by
 obtain⟨a,c,x,rfl⟩:=h.slc
 refine bb ho Gd rfl ?_
 unfold aD aD
 refine uG ?_
 let I:Nat×AV×List AV→Sl→St→Prop:=fun y L s'=>Mod No s s'∧y.1≤ps.length∧Ow s s' y.2.1 y.2.2 (ps.take y.1)∧L=[(3,y.2.1),(6, .slc a ps.length c x),(7, .int .i64 (ps.length:Int)),(8, .int .i64 (y.1:Int))]
 refine WL.less (M:=[(3, .slc none 0 0 true),(6, .slc a ps.length c x),(7, .int .i64 (ps.length:Int)),(8, .int .i64 ((0:Nat):Int))]) ?_ rfl
 refine aV I (fun y=>ps.length- y.1) ?_ ps.length (0, .slc none 0 0 true,[]) _ s (by simp) ⟨Mod.refl _ _,Nat.zero_le _,⟨Acc.nil,rfl,fun m u p hu hp=>by simp at hu,fun b hb=>(by cases hb),fun u hu=>by simp at hu,List.Pairwise.nil⟩,rfl⟩
 rintro⟨i,out,vs⟩ L s1 ⟨hm,hi,hw,rfl⟩
 simp only at hi hw ⊢
 refine uG ?_
 refine uJ [3,6,7,8,9] ?_
 refine ae rfl rfl (fun hc=>?_) (fun hc=>?_)
 ·simp at hc
  have hpi:=List.getElem?_eq_getElem hc
  obtain⟨b,off,t,n,c',x',u,e,k1,k2,k3,k4⟩:=(h.no hm).at hpi
  cases e
  obtain⟨a2,c2,x2,rfl,_⟩:=k3.ex
  repeat(first|refine uS ?_ |refine aa rfl ?_ |refine ad (by simp(disch:=omega) only[uB,uT,aQ bV bM,ah bE rfl bM k1 k2,Int.toNat_natCast,Nat.mul_one];exact rfl) ?_)
  refine aj (mh ho1 k3 (hl2 _ (List.getElem_mem hc))) ?_ ?_
  ·rintro w s2 ⟨w',s2',e,hw2,hm2,hb2⟩
   cases e
   have hblt:=hb2
   obtain⟨a3,c3,x3,rfl,_⟩:=hw2.ex
   have how2:Ow s s2 out vs (ps.take i):=hw.mod hm2 (fun _ _ _ h=>h)
   let s3:St:={s2 with h:=s2.h.put s2.nx (.cells (Tr.of [.slc a3 (ps[i].map pr).length c3 x3]) 1),nx:=s2.nx+1}
   have hm3:Mod No s2 s3:=(Mod.refl _ s2).new _
   have how3:Ow s s3 out vs (ps.take i):=how2.mod hm3 (fun _ _ _ h=>h)
   have hvl:vs.length=i:=by rw[hw.len,List.length_take];omega
   have hsrc:aZ s3 1 (.slc (some (s2.nx,0,1)) 1 1 true)=some ([[AV.slc a3 (ps[i].map pr).length c3 x3]].length,[[AV.slc a3 (ps[i].map pr).length c3 x3]].flatten):=gB (rows:=[[AV.slc a3 (ps[i].map pr).length c3 x3]]) rfl (fun r hr=>by rcases List.mem_singleton.mp hr with rfl;rfl) bm rfl
   obtain⟨out',s4,e1,e2,e3,e4⟩:=gG bV rO how3.acc hsrc (fun r hr=>by rcases List.mem_singleton.mp hr with rfl;rfl) (by simp) rfl (by simp;omega)
   simp only[s3] at e1
   refine bD (by simp(disch:=omega) only[uB,uT,nW bV bM sT rfl,fM bV (.inl rfl),e1];exact rfl) ?_
   refine uH ?_
   refine uG ?_
   have hne4:∀b,blk out=some b→b<s1.nx:=fun b hb=>hw.acc.lt hb
   have hm4:Mod No s s4:=((hm.trans hm2 (fun _ _ h=>h)).trans hm3 (fun _ _ h=>h)).trans e3 (fun b hb h=>by have:=hw.fo b h;omega)
   have hs3:s3.nx=s2.nx+1:=rfl
   have hnx4:s3.nx<s4.nx:=by have:=e2.lt e4;omega
   have hwm:Sli s4 (.slc a3 (ps[i].map pr).length c3 x3) 2 (ps[i].map pr):=(hw2.mod hm3 (fun _ _ h=>h)).mod e3 fun b hb h=>by
    have h1:=(hb2 b hb).1
    have h2:=hne4 b h
    omega
   refine aH (i+1,out',vs++[.slc a3 (ps[i].map pr).length c3 x3]) [(3,out'),(6, .slc (some (b,off,1)) ps.length c x),(7, .int .i64 (ps.length:Int)),(8, .int .i64 ((i+1:Nat):Int))] ⟨hm4,by simp only;omega,?_,rfl⟩ (by simp only;omega) (by simp[aI,az])
   simp only
   rw[List.take_succ_eq_append_getElem hc]
   refine⟨by rw[List.map_append];exact e2,by simp[hvl];omega,fun m u p hu hp=>?_,fun b hb=>?_,fun u hu b hb=>?_,?_⟩
   ·by_cases hmi:m<vs.length
    ·rw[List.getElem?_append_left hmi] at hu
     rw[List.getElem?_append_left (by rw[←hw.len];exact hmi)] at hp
     refine(how3.el m u p hu hp).mod e3 fun b hb h=>?_
     exact(how3.inn u (List.mem_of_getElem? hu) b hb).2.2 h
    ·rw[List.getElem?_append_right (by omega)] at hu
     rw[List.getElem?_append_right (by rw[←hw.len];omega),←hw.len] at hp
     have hlt:=(List.getElem?_eq_some_iff.mp hu).1
     have h0:m- vs.length=0:=by simp at hlt;omega
     rw[h0] at hu hp
     simp at hu hp
     subst hu hp
     simpa using hwm
   ·rw[e4] at hb;simp at hb;have:=hm.nx;have:=hm2.nx;omega
   ·rcases List.mem_append.mp hu with hu|hu
    ·obtain⟨g1,g2,g3⟩:=how3.inn u hu b hb
     refine⟨g1,by omega,fun h=>?_⟩
     rw[e4] at h;simp at h;omega
    ·rcases List.mem_singleton.mp hu with rfl
     obtain⟨g1,g2⟩:=hb2 b hb
     refine⟨by have:=hm.nx;omega,by omega,fun h=>?_⟩
     rw[e4] at h;simp at h;omega
   ·refine List.pairwise_append.mpr ⟨hw.apart,List.pairwise_singleton _ _,fun u hu w hw' b hb h=>?_⟩
    rcases List.mem_singleton.mp hw' with rfl
    have g1:=(hb2 b h).1
    have g2:=(hw.inn u hu b hb).2.1
    omega
  ·(intro v s' h;simp at h)
 ·refine uG ?_
  refine ai rfl ?_
  simp at hc
  obtain rfl:i=ps.length:=by omega
  exact⟨out,vs,s1,rfl,hm,by simpa using hw⟩
end
end Go.Proofs.Ytofohkdkpbigiaa
end
section
namespace Go.Proofs.Ytofohkdkpbigiaa
open Go.Am
set_option maxRecDepth 10000
set_option maxHeartbeats 1000000
set_option linter.unusedSimpArgs false
section
variable {O:bj}
theorem CX:X.fns.get 79=some Try.f79:=by kernel_rfl
theorem ri {k v:Str}:bz X 93 [(0, .str k),(1, .str v)]=some (.pure (.agg [.str k, .str v])):=by
 simp only[bz,nS,lC,cS,aF,cL,dc,AV.cells,dB,fB]
 rfl
theorem jZ {s:St}{k v:Str}:bB X 52 1 [(0, .agg [.str k, .str v])] s=some (.val (.slc (some (s.nx,0,2)) 1 1 true) {s with h:=s.h.put s.nx (.cells (Tr.of [.str k, .str v]) 2),nx:=s.nx+1}):=
 jF (cs:=[.str k, .str v]) bE bW lC rfl (by decide) (by decide) rfl rfl
theorem Ow.cell {s s':St}{out:AV}{vs:List AV}{qs:List Prs}(h:Ow s s' out vs qs){n:Nat}{u:AV}(hn:vs[n]? =some u):∃b x t,out= .slc (some (b,0,1)) vs.length vs.length x∧b<s'.nx∧(∃k,s'.h.get b=some (.cells t k))∧t.get n=some u:=by
 have hv:vs≠[]:=fun e=>by rw[e] at hn;simp at hn
 rcases h.acc.ex with⟨_,e⟩|⟨b,x,t,rfl,h1,h2,h3⟩
 ·exact absurd (by simpa using e) hv
 ·simp only[List.length_map,Nat.mul_one]
  have:=gD h.acc.len h3 n [u] (by simp[hn])
  have:=(aR.mp this).2 0 u rfl
  simp only[Nat.mul_one,Nat.add_zero,Nat.zero_add] at this
  exact⟨b,x,t,rfl,h1,h2.imp' _ (fun _ h=>h),this⟩
theorem vZ {m n c:Nat}{a:Option (Nat×Nat×Nat)}{x:Bool}(h:∀b,blk (.slc a n c x)=some b→b<m):xp m (.slc a n c x)=true:=by
 cases a with
 |none=>rfl
 |some q=>obtain⟨b,o,e⟩:=q;exact Nat.blt_eq.mpr (h b rfl)
theorem GZ (n:Nat):∀ (p:Prs),((p.map pr).flatten).all (xp n)=true
 |[]=>rfl
 |q::p=>by simp only[List.map_cons,List.flatten_cons,List.all_append,GZ n p,Bool.and_true];rfl
structure Hx (O:bj):Prop where
 put:O 79=none
 right:O 42=none
 copied:O 87=none
 clone:O 90=none
 of:O 43=none
 of1:O 63=none
 at':O 88=none
 at1:O 94=none
 search:O 62=none
 ins:O 89=some (lO 2)
 insP:O 91=some (lO 1)
theorem yU (ho:Hx O){s:St}{F:Nat→Prop}{v:AV}{ps:List Prs}(h:Pgs s F v ps)(hF:∀b,F b→b<s.nx)(hr:Rt ps)(hl:ps.length≤100000){k w:Str}(hk:∀q∈ps.flatten,q.1≠k):
  Ca X O (.fn 79) [v, .str k, .str w] s fun z=>∃v' s' ps' A B,z= .ret v' s'∧Mod No s s'∧Pgs s' (fun b=>s.nx≤b∧b<s'.nx) v' ps'∧Rt ps'∧ps.flatten=A++B∧ps'.flatten=A++(k,w)::B∧(∀a∈A,a.1.lt k=true)∧(∀b∈B,k.lt b.1=true)∧Cap v':=by
 refine bb ho.put CX rfl ?_
 unfold aD aD aD aD
 refine uG ?_
 refine aj (wo ho.right h hr (by omega)) ?_ ?_
 ·rintro z s1 ⟨s1',e,hm1⟩
  cases e
  refine bD (by simp(disch:=omega) only[uB,uT,Bool.not_true];exact rfl) ?_
  refine uJ [0,1,2,14] ?_
  refine uH ?_
  refine ae rfl rfl (fun hc=>?_) (fun hc=>?_)
  ·cases hc
  ·refine uG ?_
   have h1:=h.no hm1
   refine aj (BQ ho.copied ho.clone h1 hl (fun p hp=>Nat.le_trans (hr.few p hp) (by omega))) ?_ ?_
   ·rintro z s2 ⟨out,vs,s2',e,hm2,how⟩
    cases e
    refine uL ?_
    have hm12:Mod No s s2:=hm1.trans hm2 (fun _ _ h=>h)
    obtain⟨ao,co,xo,rfl,_⟩:=how.acc.sli.ex
    by_cases hvs0:vs=[]
    ·have hps:ps=[]:=List.eq_nil_of_length_eq_zero (by rw[←how.len,hvs0];rfl)
     subst hps hvs0
     have d0:decide (((([]:List AV).map fun u=>[u]).length:Int)=0)=true:=by simp
     repeat(first|refine uS ?_ |refine aa rfl ?_ |refine ad (by simp(disch:=omega) only[uB,uT,d0];exact rfl) ?_)
     refine uJ [0,1,2,7,19] ?_
     refine ae rfl rfl (fun hc2=>?_) (fun hc2=>?_)
     ·let s3:St:={s2 with h:=s2.h.put s2.nx (.cells (Tr.of [.str k, .str w]) 2),nx:=s2.nx+1}
      let s4:St:={s3 with h:=s3.h.put s3.nx (.cells (Tr.of [.slc (some (s2.nx,0,2)) 1 1 true]) 1),nx:=s3.nx+1}
      have hm3:Mod No s2 s3:=(Mod.refl _ s2).new _
      have hm4:Mod No s3 s4:=(Mod.refl _ s3).new _
      repeat(first|refine uS ?_ |refine aa rfl ?_ |refine ad (by simp(disch:=omega) only[uB,uT,ri,jZ,nW bV bM sT rfl];exact rfl) ?_)
      refine ai rfl ?_
      have g1:s4.h.get s2.nx=some (.cells (Tr.of [.str k, .str w]) 2):=by
       show((s2.h.put s2.nx _).put (s2.nx+1) _).get s2.nx=_
       rw[aT (by omega),bm]
      have g2:s4.h.get (s2.nx+1)=some (.cells (Tr.of [.slc (some (s2.nx,0,2)) 1 1 true]) 1):=bm
      refine⟨.slc (some (s2.nx+1,0,1)) 1 1 true,s4,[[(k,w)]],[],[],rfl,(hm12.trans hm3 (fun _ _ h=>h)).trans hm4 (fun _ _ h=>h),⟨[.slc (some (s2.nx,0,2)) 1 1 true],rfl,⟨_,_,_,rfl,fun _=>⟨s2.nx+1,0,_,1,rfl,Nat.lt_succ_self _,g2,fun i r hi=>?_⟩⟩,fun b hb=>?_,fun i u p hu hp=>?_⟩,⟨fun p hp=>?_,fun p hp=>?_,?_⟩,rfl,rfl,fun a ha=>by simp at ha,fun b hb=>by simp at hb,Cap.same⟩
      ·cases i with
       |zero=>simp at hi;subst hi;exact jK rfl rfl
       |succ i=>simp at hi
      ·cases hb;exact⟨by have:=hm12.nx;omega,Nat.lt_succ_self _⟩
      ·cases i with
       |zero=>
        simp at hu hp
        subst hu hp
        refine⟨⟨_,_,_,rfl,fun _=>⟨s2.nx,0,_,2,rfl,Nat.lt_succ_of_lt (Nat.lt_succ_self _),g1,fun i r hi=>?_⟩⟩,fun b hb=>?_⟩
        ·cases i with
         |zero=>simp at hi;subst hi;exact jK rfl rfl
         |succ i=>simp at hi
        ·cases hb;exact⟨by have:=hm12.nx;omega,Nat.lt_succ_of_lt (Nat.lt_succ_self _)⟩
       |succ i=>simp at hu
      ·simp at hp;subst hp;simp
      ·simp at hp;subst hp;simp
      ·simp[Srt]
     ·cases hc2
    ·have hpl:vs.length=ps.length:=how.len
     have hv0:0<vs.length:=List.length_pos_iff.mpr hvs0
     have hps0:ps≠[]:=by rintro rfl;simp at hpl;exact hvs0 hpl
     have d0:decide ((((vs.map fun u=>[u]).length:Nat):Int)=0)=false:=by simp;omega
     repeat(first|refine uS ?_ |refine aa rfl ?_ |refine ad (by simp(disch:=omega) only[uB,uT,d0];exact rfl) ?_)
     refine uJ [0,1,2,7,19] ?_
     refine ae rfl rfl (fun hc2=>?_) (fun hc2=>?_)
     ·cases hc2
     ·refine uG ?_
      have hpg:=how.pgs
      refine aj (EC ho.of ho.of1 ho.search hpg hr.one hps0 (by omega)) ?_ ?_
      ·rintro z s3 ⟨j,s3',e,hm3,hj⟩
       cases e
       have hjl:j- 1<ps.length:=by have:=hj.1;have:=List.length_pos_iff.mpr hps0;omega
       have how3:=how.mod hm3 (fun _ _ _ h=>h)
       have hun:=List.getElem?_eq_getElem (show j- 1<vs.length by omega)
       have hpn:=List.getElem?_eq_getElem hjl
       obtain⟨bo,xo',to,e0,q1,⟨kq3,q2⟩,q3⟩:=how3.cell hun
       simp only[List.length_map] at e0
       cases e0
       simp only[List.length_map] at how how3 hpg ⊢
       have hsl:=how3.el _ _ _ hun hpn
       obtain⟨a5,c5,x5,e5,_⟩:=hsl.ex
       rw[List.length_map] at e5
       rw[e5] at q3 hun hsl
       have hpl8:=hr.few _ (List.getElem_mem hjl)
       refine uL ?_
       refine uH ?_
       repeat(first|refine uS ?_ |refine aa rfl ?_ |refine ad (by simp(disch:=omega) only[uB,uT,aQ bV bM,ah bE rfl bM q2 q3,Int.toNat_natCast,Nat.mul_one,Nat.zero_add];exact rfl) ?_)
       refine aj (Ke ho.at' ho.at1 ho.search hsl (by omega)) ?_ ?_
       ·rintro z s4 ⟨i,s4',e,hm4,hi⟩
        cases e
        have how4:=how3.mod hm4 (fun _ _ _ h=>h)
        have hno:Ay ps[j- 1] k i=false:=by
         unfold Ay
         cases hq:ps[j- 1][i]? with
         |none=>rfl
         |some q=>
          refine Str.beq_false.mpr (hk q (List.mem_flatten.mpr ⟨_,List.getElem_mem hjl,List.mem_of_getElem? hq⟩))
        obtain⟨hA,hB⟩:=place hr hk hj hpn hi
        obtain⟨bo',xo2,to2,e0,q1,⟨kq2,q2⟩,q3⟩:=how4.cell hun
        cases e0
        have hsl4:=hsl.mod hm4 (fun _ _ h=>h)
        refine bD (by simp(disch:=omega) only[uB,uT,hno];exact rfl) ?_
        refine uH ?_
        refine uJ [0,1,2,7,8,9,10] ?_
        (repeat(first|refine uS ?_ |refine aa rfl ?_));refine ad (by simp(disch:=omega) only[uB,uT];exact rfl) ?_;(repeat(first|refine uS ?_ |refine aa rfl ?_))
        refine uJ [0,1,2,7,8,9,10,37] ?_
        refine ae rfl rfl (fun hc3=>?_) (fun hc3=>?_)
        ·cases hc3
        ·have hp1:ps[j- 1]≠[]:=hr.one _ (List.getElem_mem hjl)
         have hap:=how4.inn _ (List.mem_of_getElem? hun)
         obtain⟨b5,o5,t5,n5,rfl,w1,w2,w3⟩:∃b off t n,a5=some (b,off,2)∧b<s4.nx∧s4.h.get b=some (.cells t n)∧∀i r,(ps[j- 1].map pr)[i]? =some r→ldL t (off+i*2) 2=some r:=by
          obtain⟨a,c,x,e,g⟩:=hsl4.ex
          simp only[List.length_map] at e
          cases e
          exact g (by simpa using hp1)
         let s5:St:={s4 with h:=s4.h.put s4.nx (.cells (Tr.of [.str k, .str w]) 2),nx:=s4.nx+1}
         have hm5:Am.Mod No s4 s5:=(Mod.refl _ s4).new _
         have w2':s5.h.get b5=some (.cells t5 n5):=(hm5.old _ w1 (fun h=>h)).trans w2
         have w4:s5.h.get s4.nx=some (.cells (Tr.of [.str k, .str w]) 2):=bm
         repeat(first|refine uS ?_ |refine aa rfl ?_ |refine ad (by simp(disch:=omega) only[uB,uT,aQ bV bM,ah bE rfl bM q2 q3,Int.toNat_natCast,Nat.mul_one,Nat.zero_add,ri,jZ];exact rfl) ?_)
         refine aj (Hb ho.ins (rows:=ps[j- 1].map pr) (new:=[pr (k,w)]) w2' (by simp) (by simpa using hp1) w3 hi.1 rfl (by simp) (fun r hr=>by rcases List.mem_singleton.mp hr with rfl;rfl) (by simp;omega) (by rw[List.all_append,GZ];rfl) w4 (by decide) (by omega) (Nat.lt_succ_of_lt w1)) ?_ ?_
         ·rintro p6 s6 ⟨p6',s6',e,ac6,hm6,hb6⟩
          cases e
          have hrow6:(ps[j- 1].map pr).take i++[pr (k,w)]++(ps[j- 1].map pr).drop i=(ps[j- 1].take i++(k,w)::ps[j- 1].drop i).map pr:=by simp[List.map_take,List.map_drop]
          rw[hrow6] at ac6
          generalize hp':ps[j- 1].take i++(k,w)::ps[j- 1].drop i=p' at ac6
          have hp'l:p'.length=ps[j- 1].length+1:=by rw[←hp'];have:=hi.1;simp;omega
          have hp'0:p'≠[]:=by rintro rfl;simp at hp'l
          obtain⟨b6,x6,t6,rfl,y1,y2,y3⟩:∃b x t,p6= .slc (some (b,0,2)) p'.length p'.length x∧b<s6.nx∧(∃f,s6.h.get b=some (.cells t (p'.length*2+f)))∧ldL t 0 (p'.length*2)=some (p'.map pr).flatten:=by
           rcases ac6.ex with⟨_,e⟩|⟨b,x,t,e1,e2,e3,e4⟩
           ·exact absurd (by simpa using e) hp'0
           ·rw[List.length_map] at e1 e3 e4;exact⟨b,x,t,e1,e2,e3,e4⟩
          have hb6e:b6=s5.nx:=by simpa[blk] using hb6
          have hbo:bo≠b5:=by have:=hap b5 rfl;simpa[blk] using this.2.2
          have hown6:∀m u,vs[m]? =some u→m≠j- 1→∀b,blk u=some b→b≠b5:=fun m u hu hne b hb e=>by
           subst e
           rcases Nat.lt_or_ge m (j- 1) with q|q
           ·exact List.pairwise_iff_getElem.mp how4.apart m (j- 1) _ _ q b (by rw[←hb];congr 1;exact(List.getElem?_eq_some_iff.mp hu).2) (by rw[(List.getElem?_eq_some_iff.mp hun).2];rfl)
           ·exact List.pairwise_iff_getElem.mp how4.apart (j- 1) m _ _ (by omega) b (by rw[(List.getElem?_eq_some_iff.mp hun).2];rfl) (by rw[←hb];congr 1;exact(List.getElem?_eq_some_iff.mp hu).2)
          have el6:∀m u p,vs[m]? =some u→ps[m]? =some p→m≠j- 1→Sli s6 u 2 (p.map pr):=fun m u p hu hp hne=>
           ((how4.el m u p hu hp).mod hm5 (fun _ _ h=>h)).mod hm6 fun b hb e=>hown6 m u hu hne b hb e
          have acc6:Acc s6 (.slc (some (bo,0,1)) vs.length vs.length xo) 1 (vs.map fun u=>[u]):=by
           have:=(how4.acc.mod hm5 (fun _ _ h=>h)).mod hm6 (fun b hb e=>by simp[blk] at hb;omega)
           exact this
          refine uL ?_
          refine uH ?_
          (repeat(first|refine uS ?_ |refine aa rfl ?_));refine ad (by simp(disch:=omega) only[uB,uT];exact rfl) ?_;(repeat(first|refine uS ?_ |refine aa rfl ?_))
          refine uJ [0,1,2,7,8,9,10,11,59] ?_
          refine ae rfl rfl (fun hc4=>?_) (fun hc4=>?_)
          ·simp at hc4
           obtain⟨bo2,xo4,to4,c7,ko4,e0,z1,z2,z3,ac7,hm7⟩:=acc6.set (i:=j- 1) (by simpa using(show j- 1<vs.length by omega)) (r:=[.slc (some (b6,0,2)) p'.length p'.length x6]) rfl
           simp only[List.length_map,Nat.mul_one,Nat.zero_add] at e0 z2 z3 ac7 hm7
           cases e0
           repeat(first|refine uS ?_ |refine aa rfl ?_ |refine ad (by simp(disch:=omega) only[uB,uT,aQ bV bM,Int.toNat_natCast,Nat.mul_one,Nat.zero_add,eY (v:= .slc (some (b6,0,2)) p'.length p'.length x6) bM z2 rfl rfl z3];exact rfl) ?_)
           refine ai rfl ?_
           generalize hs7:({s6 with h:=s6.h.put bo (.cells c7 ko4)}:St)=s7 at ac7 hm7
           have hnx7:s7.nx=s6.nx:=by rw[←hs7]
           have hm:Am.Mod No s s7:=((((hm12.trans hm3 (fun _ _ h=>h)).trans hm4 (fun _ _ h=>h)).trans hm5 (fun _ _ h=>h)).trans hm6 (fun b hb (e:b=b5)=>by have:=(hap b5 rfl).1;have:=hm1.nx;omega)).trans hm7 (fun b hb (e:b=bo)=>by have:=how4.fo bo rfl;have:=hm1.nx;omega)
           have hap1:s1.nx≤b5:=(hap b5 rfl).1
           have hm1n:=hm1.nx
           have hfo:=how4.fo bo rfl
           have hnx6:s5.nx≤s6.nx:=hm6.nx
           have hs5n:s5.nx=s4.nx+1:=rfl
           have hAB:ps.flatten=((ps.take (j- 1)).flatten++ps[j- 1].take i)++(ps[j- 1].drop i++(ps.drop (j- 1+1)).flatten):=by
            rw[iH hpn,List.append_assoc,←List.append_assoc (ps[j- 1].take i),List.take_append_drop]
           have hCD:(ps.set (j- 1) p').flatten=((ps.take (j- 1)).flatten++ps[j- 1].take i)++((k,w)::(ps[j- 1].drop i++(ps.drop (j- 1+1)).flatten)):=by
            rw[Ip hjl,←hp'];simp only[List.append_assoc,List.cons_append]
           have hsort:Srt (ps.set (j- 1) p').flatten:=by rw[hCD];exact DZ (by rw[←hAB];exact hr.srt) hA hB
           refine⟨.slc (some (bo,0,1)) vs.length vs.length xo,s7,ps.set (j- 1) p',_,_,by rw[←hs7];rfl,hm,⟨vs.set (j- 1) (.slc (some (b6,0,2)) p'.length p'.length x6),by simp[hpl],by rw[List.map_set];exact ac7.sli,fun b hb=>?_,fun m u p hu hp=>?_⟩,⟨fun p hp=>?_,fun p hp=>?_,hsort⟩,hAB,hCD,hA,hB,Cap.same⟩
           ·cases hb;exact⟨by omega,by omega⟩
           ·rw[List.getElem?_set] at hu hp
            by_cases e:j- 1=m
            ·rw[if_pos e,if_pos (by omega)] at hu hp
             cases hu;cases hp
             refine⟨ac6.sli.mod hm7 (fun b hb (e:b=bo)=>by cases hb;omega),fun b hb=>?_⟩
             cases hb;exact⟨by omega,by omega⟩
            ·rw[if_neg e] at hu hp
             have f:=how4.inn u (List.mem_of_getElem? hu)
             refine⟨(el6 m u p hu hp (fun h=>e h.symm)).mod hm7 (fun b hb (e:b=bo)=>(f b hb).2.2 (by rw[e];rfl)),fun b hb=>?_⟩
             obtain⟨f1,f2,_⟩:=f b hb
             exact⟨by omega,by omega⟩
           ·rcases List.mem_or_eq_of_mem_set hp with hp|rfl
            ·exact hr.one p hp
            ·exact hp'0
           ·rcases List.mem_or_eq_of_mem_set hp with hp|rfl
            ·exact hr.few p hp
            ·omega
          ·simp at hc4
           have h9:p'.length=9:=by omega
           have hto:=(ac6.sli.to (k:=4) (by simp;omega) p'.length x6)
           rw[←List.map_take] at hto
           have hfrom:=(ac6.sli.from 4 (p'.length- 4) x6)
           rw[←List.map_drop] at hfrom
           repeat(first|refine uS ?_ |refine aa rfl ?_ |refine ad (by simp(disch:=omega) only[uB,uT,Bk bE bW];exact rfl) ?_)
           refine aj (mh ho.clone hto (by simp;omega)) ?_ ?_
           ·rintro u1 s7 ⟨u1',s7',e,hu1,hm7,hb7⟩
            cases e
            obtain⟨a7,n7,c7,x7,rfl⟩:∃a n c x,u1=AV.slc a n c x:=by obtain⟨a,c,x,e,_⟩:=hu1.ex;exact⟨a,_,c,x,e⟩
            have acc7:=acc6.mod hm7 (fun _ _ h=>h)
            obtain⟨bo2,xo4,to4,c8,ko4,e0,z1,z2,z3,ac8,hm8⟩:=acc7.set (i:=j- 1) (by simpa using(show j- 1<vs.length by omega)) (r:=[.slc a7 n7 c7 x7]) rfl
            simp only[List.length_map,Nat.mul_one,Nat.zero_add] at e0 z2 z3 ac8 hm8
            cases e0
            refine bD (by simp(disch:=omega) only[uB,uT,aQ bV bM,Int.toNat_natCast,Nat.mul_one,Nat.zero_add,eY (v:= .slc a7 n7 c7 x7) bM z2 rfl rfl z3];exact rfl) ?_
            refine uH ?_
            generalize hs8:({s7 with h:=s7.h.put bo (.cells c8 ko4)}:St)=s8 at ac8 hm8
            have hnx8:s8.nx=s7.nx:=by rw[←hs8]
            have hs5n:s5.nx=s4.nx+1:=rfl
            have hj1:((j- 1:Nat):Int)+1=((j- 1+1:Nat):Int):=by omega
            have hfrom8:=(hfrom.mod hm7 (fun _ _ h=>h)).mod hm8 (fun b hb (e:b=bo)=>by cases hb;omega)
            repeat(first|refine uS ?_ |refine aa rfl ?_ |refine ad (by simp(disch:=omega) only[uB,uT,y7 bE bW,hj1];exact rfl) ?_)
            refine aj (mh ho.clone hfrom8 (by simp;omega)) ?_ ?_
            ·rintro u2 s9 ⟨u2',s9',e,hu2,hm9,hb9⟩
             cases e
             obtain⟨a9,n9,c9,x9,rfl⟩:∃a n c x,u2=AV.slc a n c x:=by obtain⟨a,c,x,e,_⟩:=hu2.ex;exact⟨a,_,c,x,e⟩
             have acc9:=ac8.mod hm9 (fun _ _ h=>h)
             let s10:St:={s9 with h:=s9.h.put s9.nx (.cells (Tr.of [.slc a9 n9 c9 x9]) 1),nx:=s9.nx+1}
             have hm10:Am.Mod No s9 s10:=(Mod.refl _ s9).new _
             have acc10:=acc9.mod hm10 (fun _ _ h=>h)
             obtain⟨_,_⟩|⟨bo3,xo5,to5,e0,v1,⟨fo5,v2⟩,v3⟩:=acc10.ex
             ·rename_i e _;cases e
             simp only[List.length_set,List.length_map,Nat.mul_one] at e0 v2 v3
             cases e0
             have hnx9:s8.nx≤s9.nx:=hm9.nx
             have hnx7:=hm7.nx
             have hnx6:s5.nx≤s6.nx:=hm6.nx
             have hs10n:s10.nx=s9.nx+1:=rfl
             have hlow:∀u∈vs.set (j- 1) (.slc a7 n7 c7 x7),xp s10.nx u=true:=fun u hu=>by
              rcases List.mem_or_eq_of_mem_set hu with hu|rfl
              ·obtain⟨m,hml,e⟩:=List.getElem_of_mem hu
               have hsu:=how4.el m u ps[m] (by rw[←e];exact List.getElem?_eq_getElem hml) (List.getElem?_eq_getElem (by omega))
               obtain⟨a,c,x,e2,_⟩:=hsu.ex
               rw[e2]
               refine vZ fun b hb=>?_
               rw[←e2] at hb
               have:=(how4.inn u hu b hb).2.1
               omega
              ·exact vZ fun b hb=>by have:=(hb7 b hb).2;omega
             refine bD (by simp(disch:=omega) only[uB,uT,nW bV bM sT rfl];exact rfl) ?_
             refine aj (Hb ho.insP (rows:=(vs.map fun u=>[u]).set (j- 1) [.slc a7 n7 c7 x7]) (new:=[[.slc a9 n9 c9 x9]]) v2 (by simp) (by simpa using hvs0) (gD acc10.len (by simpa using v3)) (by omega) rfl (by simp) (fun r hr=>by rcases List.mem_singleton.mp hr with rfl;rfl) (by omega) (by rw[List.all_append,←List.map_set];rw[List.all_eq_true.mpr fun u hu=>by obtain⟨l,hl1,hl2⟩:=List.mem_flatten.mp hu;obtain⟨y,hy,rfl⟩:=List.mem_map.mp hl1;rcases List.mem_singleton.mp hl2 with rfl;exact hlow _ hy];rw[Bool.true_and];show(xp _ (AV.slc a9 n9 c9 x9)&&true)=true;rw[Bool.and_true];exact vZ fun b hb=>by have:=(hb9 b hb).2;show b<s10.nx;omega) bm (by decide) (by omega) v1) ?_ ?_
             ·rintro r11 s11 ⟨r11',s11',e,ac11,hm11,hb11⟩
              cases e
              have hnx11:s10.nx≤s11.nx:=hm11.nx
              have hfo:=how4.fo bo rfl
              have hm1n:=hm1.nx
              have hap1:s1.nx≤b5:=(hap b5 rfl).1
              have hm:Am.Mod No s s11:=((((((((hm12.trans hm3 (fun _ _ h=>h)).trans hm4 (fun _ _ h=>h)).trans hm5 (fun _ _ h=>h)).trans hm6 (fun b hb (e:b=b5)=>by omega)).trans hm7 (fun _ _ h=>h)).trans hm8 (fun b hb (e:b=bo)=>by omega)).trans hm9 (fun _ _ h=>h)).trans hm10 (fun _ _ h=>h)).trans hm11 (fun b hb (e:b=bo)=>by omega)
              let R:AV→Prs→Prop:=fun u p=>Sli s11 u 2 (p.map pr)∧∀b,blk u=some b→s.nx≤b∧b<s11.nx
              have hR1:R (.slc a7 n7 c7 x7) (p'.take 4):=⟨(((hu1.mod hm8 (fun b hb (e:b=bo)=>by have:=(hb7 b hb).1;omega)).mod hm9 (fun _ _ h=>h)).mod hm10 (fun _ _ h=>h)).mod hm11 (fun b hb (e:b=bo)=>by have:=(hb7 b hb).1;omega),fun b hb=>by have:=hb7 b hb;exact⟨by omega,by omega⟩⟩
              have hR2:R (.slc a9 n9 c9 x9) (p'.drop 4):=⟨(hu2.mod hm10 (fun _ _ h=>h)).mod hm11 (fun b hb (e:b=bo)=>by have:=(hb9 b hb).1;omega),fun b hb=>by have:=hb9 b hb;exact⟨by omega,by omega⟩⟩
              have hR:dM R (vs.set (j- 1) (.slc a7 n7 c7 x7)) (ps.set (j- 1) (p'.take 4)):=dM.of (by simp[hpl]) fun m u p hu hp=>by
               rw[List.getElem?_set] at hu hp
               by_cases e:j- 1=m
               ·rw[if_pos e,if_pos (by omega)] at hu hp
                cases hu;cases hp
                exact hR1
               ·rw[if_neg e] at hu hp
                have f:=how4.inn u (List.mem_of_getElem? hu)
                have nb:∀b,blk u=some b→¬(b=bo):=fun b hb (e:b=bo)=>(f b hb).2.2 (by rw[e];rfl)
                exact⟨(((((el6 m u p hu hp (fun h=>e h.symm)).mod hm7 (fun _ _ h=>h)).mod hm8 nb).mod hm9 (fun _ _ h=>h)).mod hm10 (fun _ _ h=>h)).mod hm11 nb,fun b hb=>by obtain⟨f1,f2,_⟩:=f b hb;exact⟨by omega,by omega⟩⟩
              have hRR:=((hR.take (j- 1+1)).append (show dM R [AV.slc a9 n9 c9 x9] [p'.drop 4] from⟨hR2,trivial⟩)).append (hR.drop (j- 1+1))
              have hAB:ps.flatten=((ps.take (j- 1)).flatten++ps[j- 1].take i)++(ps[j- 1].drop i++(ps.drop (j- 1+1)).flatten):=by
               rw[iH hpn,List.append_assoc,←List.append_assoc (ps[j- 1].take i),List.take_append_drop]
              have hCD:((ps.set (j- 1) (p'.take 4)).take (j- 1+1)++[p'.drop 4]++(ps.set (j- 1) (p'.take 4)).drop (j- 1+1)).flatten=((ps.take (j- 1)).flatten++ps[j- 1].take i)++((k,w)::(ps[j- 1].drop i++(ps.drop (j- 1+1)).flatten)):=by
               rw[Fi hjl,List.take_append_drop,←hp'];simp only[List.append_assoc,List.cons_append]
              refine uL ?_
              refine uG ?_
              refine ai rfl ?_
              refine⟨r11,s11,_,_,_,rfl,hm,⟨_,hRR.len,?_,fun b hb=>?_,fun m u p hu hp=>hRR.get m u p hu hp⟩,⟨fun p hp=>?_,fun p hp=>?_,?_⟩,hAB,hCD,hA,hB,ac11.cap⟩
              ·have:=ac11.sli
               rw[←List.map_set] at this
               simpa[List.map_take,List.map_drop] using this
              ·rw[hb11] at hb;simp at hb;have hlt:s10.nx<s11.nx:=ac11.lt hb11;exact⟨by omega,by omega⟩
              ·rcases List.mem_append.mp hp with hp|hp
               ·rcases List.mem_append.mp hp with hp|hp
                ·rcases List.mem_or_eq_of_mem_set (List.mem_of_mem_take hp) with hp|rfl
                 ·exact hr.one p hp
                 ·intro e;have:=congrArg List.length e;rw[List.length_take,List.length_nil] at this;omega
                ·rcases List.mem_singleton.mp hp with rfl
                 intro e;have:=congrArg List.length e;rw[List.length_drop,List.length_nil] at this;omega
               ·rcases List.mem_or_eq_of_mem_set (List.mem_of_mem_drop hp) with hp|rfl
                ·exact hr.one p hp
                ·intro e;have:=congrArg List.length e;rw[List.length_take,List.length_nil] at this;omega
              ·rcases List.mem_append.mp hp with hp|hp
               ·rcases List.mem_append.mp hp with hp|hp
                ·rcases List.mem_or_eq_of_mem_set (List.mem_of_mem_take hp) with hp|rfl
                 ·exact hr.few p hp
                 ·simp;omega
                ·rcases List.mem_singleton.mp hp with rfl
                 simp;omega
               ·rcases List.mem_or_eq_of_mem_set (List.mem_of_mem_drop hp) with hp|rfl
                ·exact hr.few p hp
                ·simp;omega
              ·rw[hCD];exact DZ (by rw[←hAB];exact hr.srt) hA hB
             ·(intro v s' h;simp at h)
            ·(intro v s' h;simp at h)
           ·(intro v s' h;simp at h)
         ·(intro v s' h;simp at h)
       ·(intro v s' h;simp at h)
      ·(intro v s' h;simp at h)
   ·(intro v s' h;simp at h)
 ·(intro v s' h;simp at h)
end
end Go.Proofs.Ytofohkdkpbigiaa
end
section
namespace Go.Am
theorem JP {ps:List Prs}(h:Rt ps){k:Str}{j:Nat}(hj:ofJ ps k j):∀q∈(ps.take (j- 1)).flatten,q.1.lt k=true:=by
 intro a ha
 have hj0:0<j:=by
  rcases Nat.eq_zero_or_pos j with e|e
  ·subst e;simp at ha
  ·exact e
 obtain⟨q,r,hq,hk⟩:=hj.2.1 hj0
 exact rW (Eb h.srt hq (j:=0) (x:=q) rfl (by simpa using ha)) hk
theorem HE {ps:List Prs}(h:Srt ps.flatten){i j:Nat}{p:Prs}{x:Str×Str}(hp:ps[i]? =some p)(hx:p[j]? =some x){hi:Str}(hhi:x.1.lt hi=false):∀q∈p.drop j++(ps.drop (i+1)).flatten,q.1.lt hi=false:=by
 intro q hq
 obtain⟨hj,rfl⟩:=List.getElem?_eq_some_iff.mp hx
 rw[iH hp] at h
 have h2:=(List.pairwise_append.mp h).2.1
 have e:p++(ps.drop (i+1)).flatten=p.take j++(p[j]::(p.drop (j+1)++(ps.drop (i+1)).flatten)):=by
  have e:=(List.take_append_drop j p).symm
  rw[List.drop_eq_getElem_cons hj] at e
  have e2:=congrArg (fun l=>l++(ps.drop (i+1)).flatten) e
  simp only[List.append_assoc,List.cons_append] at e2
  exact e2
 rw[e] at h2
 have h3:=(List.pairwise_append.mp h2).2.1
 rw[List.drop_eq_getElem_cons hj,List.cons_append] at hq
 rcases List.mem_cons.mp hq with rfl|hq
 ·exact hhi
 ·have:=(List.pairwise_cons.mp h3).1 q hq
  cases hb:q.1.lt hi with
  |false=>rfl
  |true=>rw[Str.lt_trans this hb] at hhi;cases hhi
theorem HI {ps:List Prs}(h:Srt ps.flatten)(n:Nat):Srt (ps.drop n).flatten:=by
 have e:=congrArg List.flatten (List.take_append_drop n ps).symm
 rw[List.flatten_append] at e
 rw[e] at h
 exact(List.pairwise_append.mp h).2.1
theorem yD (ps:List Prs)(n:Nat):ps.flatten=(ps.take n).flatten++(ps.drop n).flatten:=by
 have e:=congrArg List.flatten (List.take_append_drop n ps).symm
 rwa [List.flatten_append] at e
theorem filter_none {α:Type}{P:α→Bool}{l:List α}(h:∀q∈l,P q=false):l.filter P=[]:=List.filter_eq_nil_iff.mpr fun q hq=>by rw[h q hq];simp
theorem vz {ps:List Prs}{i:Nat}(h:i<ps.length):(ps.take (i+1)).flatten=(ps.take i).flatten++ps[i]:=by
 rw[List.take_succ_eq_append_getElem h,List.flatten_append,List.flatten_singleton]
theorem BA {α:Type}{P:α→Bool}{l m:List α}{j:Nat}(h:j<m.length):(l++m.take (j+1)).filter P=(l++m.take j).filter P++(if P m[j]=true then[m[j]] else[]):=by
 rw[List.take_succ_eq_append_getElem h,←List.append_assoc,List.filter_append]
 congr 1
 cases hp:P m[j]<;>simp[hp]
end Go.Am
end
