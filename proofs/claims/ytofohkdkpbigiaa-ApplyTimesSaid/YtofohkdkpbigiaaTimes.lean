/-
  ApplyTimes answers true at every input, and its arguments read behind the call as they read before: no condition.
-/
import Derived.Test.YtofohkdkpbigiaaQaz
section
namespace Go.Am
mutual
def AV.up (K:List Nat)(n:Nat):AV→AV
 | .ptr (some (b,o))=>match K[b]? with|some _=> .ptr (some (n+b,o))|none=> .top
 | .slc (some (b,o,es)) l c x=>match K[b]? with|some _=> .slc (some (n+b,o,es)) l c x|none=> .top
 | .map _=> .top
 | .func _ _ _=> .top
 | .yld _=> .top
 | .iface t v=> .iface t (v.up K n)
 | .agg cs=> .agg (AV.ups K n cs)
 | .tup vs=> .tup (AV.ups K n vs)
 | .top=> .top
 | .bool b=> .bool b
 | .int k i=> .int k i
 | .flt k b=> .flt k b
 | .str s=> .str s
 | .ptr none=> .ptr none
 | .slc none l c x=> .slc none l c x
 | .nilFunc=> .nilFunc
 | .nilIface=> .nilIface
 | .any=> .any
 | .gp g o=> .gp g o
 | .cls k b m r=> .cls k b m r
 | .ne k i=> .ne k i
def AV.ups (K:List Nat)(n:Nat):List AV→List AV
 |[]=>[]
 |a::l=>a.up K n::AV.ups K n l
end
mutual
def AV.ren (K:List Nat):AV→AV
 | .ptr (some (b,o))=>match K[b]? with|some k=> .ptr (some (k,o))|none=> .yld 0
 | .slc (some (b,o,es)) l c x=>match K[b]? with|some k=> .slc (some (k,o,es)) l c x|none=> .yld 0
 | .map r=> .map r
 | .func f a b=> .func f a b
 | .yld b=> .yld b
 | .iface t v=> .iface t (v.ren K)
 | .agg cs=> .agg (AV.vD K cs)
 | .tup vs=> .tup (AV.vD K vs)
 | .top=> .top
 | .bool b=> .bool b
 | .int k i=> .int k i
 | .flt k b=> .flt k b
 | .str s=> .str s
 | .ptr none=> .ptr none
 | .slc none l c x=> .slc none l c x
 | .nilFunc=> .nilFunc
 | .nilIface=> .nilIface
 | .any=> .any
 | .gp g o=> .gp g o
 | .cls k b m r=> .cls k b m r
 | .ne k i=> .ne k i
def AV.vD (K:List Nat):List AV→List AV
 |[]=>[]
 |a::l=>a.ren K::AV.vD K l
end
mutual
def AV.eqb:AV→AV→Bool
 | .top, .top=>true
 | .bool a, .bool b=>a==b
 | .int k i, .int l j=>decide (k=l)&&decide (i=j)
 | .flt k i, .flt l j=>decide (k=l)&&Nat.beq i j
 | .str a, .str b=>Str.beq a b
 | .ptr none, .ptr none=>true
 | .ptr (some (b,o)), .ptr (some (c,p))=>Nat.beq b c&&Nat.beq o p
 | .slc none l c x, .slc none m d y=>Nat.beq l m&&Nat.beq c d&& (x==y)
 | .slc (some (b,o,e)) l c x, .slc (some (b',o',e')) m d y=>Nat.beq b b'&&Nat.beq o o'&&Nat.beq e e'&&Nat.beq l m&&Nat.beq c d&& (x==y)
 | .nilFunc, .nilFunc=>true
 | .nilIface, .nilIface=>true
 | .iface t v, .iface t' v'=>decide (t=t')&&AV.eqb v v'
 | .agg l, .agg m=>AV.Bu l m
 | .tup l, .tup m=>AV.Bu l m
 | _,_=>false
def AV.Bu:List AV→List AV→Bool
 |[],[]=>true
 |a::l,b::m=>AV.eqb a b&&AV.Bu l m
 | _,_=>false
end
theorem Str.beq_eq {a b:Str}(h:Str.beq a b=true):a=b:=by
 obtain⟨l,v⟩:=a
 obtain⟨m,u⟩:=b
 simp only[Str.beq,Bool.and_eq_true,Nat.beq_eq] at h
 rw[h.1,h.2]
mutual
theorem AV.zk:∀ {a b:AV},AV.eqb a b=true→a=b:=by
 intro a b h
 match a,b,h with
 | .top, .top,_=>rfl
 | .bool a, .bool b,h=>simp only[AV.eqb,beq_iff_eq] at h;rw[h]
 | .int k i, .int l j,h=>simp only[AV.eqb,Bool.and_eq_true,decide_eq_true_eq] at h;rw[h.1,h.2]
 | .flt k i, .flt l j,h=>simp only[AV.eqb,Bool.and_eq_true,decide_eq_true_eq,Nat.beq_eq] at h;rw[h.1,h.2]
 | .str a, .str b,h=>simp only[AV.eqb] at h;rw[Str.beq_eq h]
 | .ptr none, .ptr none,_=>rfl
 | .ptr (some (b,o)), .ptr (some (c,p)),h=>simp only[AV.eqb,Bool.and_eq_true,Nat.beq_eq] at h;rw[h.1,h.2]
 | .slc none l c x, .slc none m d y,h=>simp only[AV.eqb,Bool.and_eq_true,Nat.beq_eq,beq_iff_eq] at h;rw[h.1.1,h.1.2,h.2]
 | .slc (some (b,o,e)) l c x, .slc (some (b',o',e')) m d y,h=>
  simp only[AV.eqb,Bool.and_eq_true,Nat.beq_eq,beq_iff_eq] at h
  obtain⟨⟨⟨⟨⟨h1,h2⟩,h3⟩,h4⟩,h5⟩,h6⟩:=h
  rw[h1,h2,h3,h4,h5,h6]
 | .nilFunc, .nilFunc,_=>rfl
 | .nilIface, .nilIface,_=>rfl
 | .iface t v, .iface t' v',h=>simp only[AV.eqb,Bool.and_eq_true,decide_eq_true_eq] at h;rw[h.1,AV.zk h.2]
 | .agg l, .agg m,h=>simp only[AV.eqb] at h;rw[AV.uV h]
 | .tup l, .tup m,h=>simp only[AV.eqb] at h;rw[AV.uV h]
theorem AV.uV:∀ {l m:List AV},AV.Bu l m=true→l=m
 |[],[],_=>rfl
 |a::l,b::m,h=>by
  simp only[AV.Bu,Bool.and_eq_true] at h
  rw[AV.zk h.1,AV.uV h.2]
 |[],_::_,h=>by simp[AV.Bu] at h
 | _::_,[],h=>by simp[AV.Bu] at h
end
mutual
theorem VR.up {κ μ:Inj}{n:Nat}{K:List Nat}(h:∀b k x,K[b]? =some k→κ k=some x→μ (n+b)=some x):∀ {a:AV} {v:Value},VR κ (a.ren K) v→VR μ (a.up K n) v
 | .top,_,_=>by simp[AV.up,VR]
 | .bool _,_,hv=>by simpa[AV.up,AV.ren,VR] using hv
 | .int _ _,_,hv=>by simpa[AV.up,AV.ren,VR] using hv
 | .flt _ _,_,hv=>by simpa[AV.up,AV.ren,VR] using hv
 | .str _,_,hv=>by simpa[AV.up,AV.ren,VR] using hv
 | .ptr none,_,hv=>by simpa[AV.up,AV.ren,VR] using hv
 | .ptr (some (b,o)),v,hv=>by
  simp only[AV.ren] at hv
  cases hk:K[b]? with
  |none=>simp[AV.up,hk,VR]
  |some k=>
   rw[hk] at hv
   simp only[VR] at hv
   obtain⟨c,d,h1,h2⟩:=hv
   simp only[AV.up,hk,VR]
   exact⟨c,d,h _ _ _ hk h1,h2⟩
 | .slc none _ _ _,_,hv=>by simpa[AV.up,AV.ren,VR] using hv
 | .slc (some (b,o,es)) l c x,v,hv=>by
  simp only[AV.ren] at hv
  cases hk:K[b]? with
  |none=>simp[AV.up,hk,VR]
  |some k=>
   rw[hk] at hv
   simp only[VR] at hv
   obtain⟨cb,d,off,m,h1,h2⟩:=hv
   simp only[AV.up,hk,VR]
   exact⟨cb,d,off,m,h _ _ _ hk h1,h2⟩
 | .map _,_,_=>by simp[AV.up,VR]
 | .func _ _ _,_,_=>by simp[AV.up,VR]
 | .nilFunc,_,hv=>by simpa[AV.up,AV.ren,VR] using hv
 | .iface t u,v,hv=>by
  simp only[AV.ren,VR] at hv
  obtain⟨x,h1,h2⟩:=hv
  simp only[AV.up,VR]
  exact⟨x,h1,VR.up h h2⟩
 | .nilIface,_,hv=>by simpa[AV.up,AV.ren,VR] using hv
 | .agg cs,v,hv=>by
  simp only[AV.ren,VR] at hv
  obtain⟨x,h1,h2⟩:=hv
  simp only[AV.up,VR]
  exact⟨x,h1,VRs.up h h2⟩
 | .tup cs,v,hv=>by
  simp only[AV.ren,VR] at hv
  obtain⟨x,h1,h2⟩:=hv
  simp only[AV.up,VR]
  exact⟨x,h1,VRs.up h h2⟩
 | .any,_,hv=>by simpa[AV.up,AV.ren,VR] using hv
 | .yld _,_,_=>by simp[AV.up,VR]
 | .gp _ _,_,hv=>by simpa[AV.up,AV.ren,VR] using hv
 | .cls _ _ _ _,_,hv=>by simpa[AV.up,AV.ren,VR] using hv
 | .ne _ _,_,hv=>by simpa[AV.up,AV.ren,VR] using hv
theorem VRs.up {κ μ:Inj}{n:Nat}{K:List Nat}(h:∀b k x,K[b]? =some k→κ k=some x→μ (n+b)=some x):∀ {l:List AV} {m:List Value},VRs κ (AV.vD K l) m→VRs μ (AV.ups K n l) m
 |[],[],_=>by simp[AV.ups,VRs]
 |[],_::_,hv=>by simp[AV.vD,VRs] at hv
 | _::_,[],hv=>by simp[AV.vD,VRs] at hv
 |a::l,v::m,hv=>by
  simp only[AV.vD,VRs,AV.ups] at hv ⊢
  exact⟨VR.up h hv.1,VRs.up h hv.2⟩
end
mutual
def AV.flat:AV→Bool
 | .top| .bool _| .int _ _| .flt _ _| .str _| .ptr none| .slc none _ _ _| .nilFunc| .nilIface| .any=>true
 | .iface _ v=>v.flat
 | .agg cs=>AV.xN cs
 | .tup cs=>AV.xN cs
 | _=>false
def AV.xN:List AV→Bool
 |[]=>true
 |a::l=>a.flat&&AV.xN l
end
mutual
theorem VR.flat {ι κ:Inj}:∀ {a:AV} {v:Value},a.flat=true→VR ι a v→VR κ a v
 | .top,_,_,_=>by simp[VR]
 | .bool _,_,_,hv=>by simpa[VR] using hv
 | .int _ _,_,_,hv=>by simpa[VR] using hv
 | .flt _ _,_,_,hv=>by simpa[VR] using hv
 | .str _,_,_,hv=>by simpa[VR] using hv
 | .ptr none,_,_,hv=>by simpa[VR] using hv
 | .ptr (some _),_,hf,_=>by simp[AV.flat] at hf
 | .slc none _ _ _,_,_,hv=>by simpa[VR] using hv
 | .slc (some _) _ _ _,_,hf,_=>by simp[AV.flat] at hf
 | .map _,_,hf,_=>by simp[AV.flat] at hf
 | .func _ _ _,_,hf,_=>by simp[AV.flat] at hf
 | .nilFunc,_,_,hv=>by simpa[VR] using hv
 | .iface t u,v,hf,hv=>by
  simp only[AV.flat] at hf
  simp only[VR] at hv ⊢
  obtain⟨x,h1,h2⟩:=hv
  exact⟨x,h1,VR.flat hf h2⟩
 | .nilIface,_,_,hv=>by simpa[VR] using hv
 | .agg cs,v,hf,hv=>by
  simp only[AV.flat] at hf
  simp only[VR] at hv ⊢
  obtain⟨x,h1,h2⟩:=hv
  exact⟨x,h1,VRs.flat hf h2⟩
 | .tup cs,v,hf,hv=>by
  simp only[AV.flat] at hf
  simp only[VR] at hv ⊢
  obtain⟨x,h1,h2⟩:=hv
  exact⟨x,h1,VRs.flat hf h2⟩
 | .any,_,_,hv=>by simpa[VR] using hv
 | .yld _,_,hf,_=>by simp[AV.flat] at hf
 | .gp _ _,_,hf,_=>by simp[AV.flat] at hf
 | .cls _ _ _ _,_,hf,_=>by simp[AV.flat] at hf
 | .ne _ _,_,hf,_=>by simp[AV.flat] at hf
theorem VRs.flat {ι κ:Inj}:∀ {l:List AV} {m:List Value},AV.xN l=true→VRs ι l m→VRs κ l m
 |[],[],_,_=>by simp[VRs]
 |[],_::_,_,hv=>by simp[VRs] at hv
 | _::_,[],_,hv=>by simp[VRs] at hv
 |a::l,v::m,hf,hv=>by
  simp only[AV.xN,Bool.and_eq_true] at hf
  simp only[VRs] at hv ⊢
  exact⟨VR.flat hf.1 hv.1,VRs.flat hf.2 hv.2⟩
end
structure xM where
 args:List AV
 v:AV
 K:List Nat
 bl:List (List AV)
 gl:List (Nat×List AV)
 sh:List Nat
noncomputable def KW:List (Nat×List AV)→Tr (Tr AV)
 |[]=> .e
 |(g,c)::l=>(KW l).put g (Tr.of c)
noncomputable def xM.st0 (m:xM):St:={h:= .e,nx:=0,gl:=KW m.gl,sh:=[]}
noncomputable def ng (c:Tr AV):Nat→List AV→Bool
 | _,[]=>true
 |i,a::l=>(match c.get i with|some v=>AV.eqb a v|none=>false)&&ng c (i+1) l
noncomputable def Eb (t:Tr (Tr AV)):List (Nat×List AV)→Bool
 |[]=>true
 |(g,c)::l=>(match t.get g with|some x=>ng x 0 c|none=>false)&&Eb t l
noncomputable def mZ (t:St)(K:List Nat):List Nat→List (List AV)→Bool
 |[],[]=>true
 |k::ks,b::bs=>(match t.h.get k with|some (.cells c n)=>Nat.beq n b.length&&ng c 0 (AV.vD K b)| _=>false)&&mZ t K ks bs
 | _,_=>false
def yY:List Nat→Bool
 |[]=>true
 |a::l=> !du a l&&yY l
def Jv (tsh msh:List Nat):Nat→List Nat→Bool
 | _,[]=>true
 |i,k::ks=>(du i msh|| !du k tsh)&&Jv tsh msh (i+1) ks
def FG (n:Nat):List Nat→List Nat→List Nat
 |[],l=>l
 |i::is,l=>(n+i)::FG n is l
noncomputable def xM.ok (m:xM):Option CR→Bool
 |some (.ret v t)=>AV.eqb (m.v.ren m.K) v&&mZ t m.K m.K m.bl&&yY m.K&&Jv t.sh m.sh 0 m.K&&AV.xN m.args
 | _=>false
noncomputable def j7 (K:List Nat)(n:Nat):List (List AV)→St→St
 |[],s=>s
 |b::bs,s=>j7 K n bs (s.new (.cells (Tr.of (AV.ups K n b)) b.length)).2
noncomputable def xM.own (m:xM):List AV→St→Option CR:=fun args s=>
 if AV.Bu args m.args&&Eb s.gl m.gl then some (.ret (m.v.up m.K s.nx) {j7 m.K s.nx m.bl s with sh:=FG s.nx m.sh s.sh}) else none
theorem xY (K:List Nat)(n:Nat):∀ (bl:List (List AV)) (s:St),(j7 K n bl s).nx=s.nx+bl.length∧(j7 K n bl s).gl=s.gl∧(j7 K n bl s).sh=s.sh
 |[],s=>⟨rfl,rfl,rfl⟩
 |b::bs,s=>by
  obtain⟨h1,h2,h3⟩:=xY K n bs (s.new (.cells (Tr.of (AV.ups K n b)) b.length)).2
  refine⟨?_,h2,h3⟩
  rw[j7,h1]
  show s.nx+1+bs.length=s.nx+(bs.length+1)
  omega
theorem vj (K:List Nat)(n:Nat):∀ (bl:List (List AV)) (s:St) (b:Nat) (ab:AB),(j7 K n bl s).h.get b=some ab→
  (∃ (i:Nat) (l:List AV),b=s.nx+i∧bl[i]? =some l∧ab= .cells (Tr.of (AV.ups K n l)) l.length)∨((b<s.nx∨s.nx+bl.length≤b)∧s.h.get b=some ab)
 |[],s,b,ab,h=> .inr ⟨by simp;omega,h⟩
 |x::bs,s,b,ab,h=>by
  rw[j7] at h
  rcases vj K n bs _ b ab h with⟨i,l,h1,h2,h3⟩|⟨h1,h2⟩
  ·refine .inl ⟨i+1,l,?_,by simpa using h2,h3⟩
   have:(s.new (.cells (Tr.of (AV.ups K n x)) x.length)).2.nx=s.nx+1:=rfl
   omega
  ·have e:(s.new (.cells (Tr.of (AV.ups K n x)) x.length)).2.nx=s.nx+1:=rfl
   rw[e] at h1
   rcases Tr.dB h2 with⟨h3,h4⟩|⟨h3,h4⟩
   ·exact .inl ⟨0,x,h3,rfl,h4.symm⟩
   ·refine .inr ⟨?_,h4⟩
    simp only[List.length_cons]
    omega
theorem mU {c:Tr AV}:∀ {l:List AV} {i:Nat},ng c i l=true→∀ (j:Nat) (a:AV),l[j]? =some a→c.get (i+j)=some a
 |[],_,_,j,a,h=>by simp at h
 |x::l,i,h,j,a,hj=>by
  simp only[ng,Bool.and_eq_true] at h
  obtain⟨h1,h2⟩:=h
  cases j with
  |zero=>
   simp only[List.getElem?_cons_zero,Option.some.injEq] at hj
   subst hj
   split at h1
   ·rename_i v hv
    rw[AV.zk h1];exact hv
   ·cases h1
  |succ j=>
   have:=mU h2 j a (by simpa using hj)
   rw[←this]
   congr 1
   omega
theorem AS {K:List Nat}:∀ {l:List AV} {j:Nat} {a:AV},l[j]? =some a→(AV.vD K l)[j]? =some (a.ren K)
 |[],j,a,h=>by simp at h
 |x::l,0,a,h=>by simp only[List.getElem?_cons_zero,Option.some.injEq] at h;subst h;simp[AV.vD]
 |x::l,j+1,a,h=>by simp only[AV.vD,List.getElem?_cons_succ] at h ⊢;exact AS h
theorem DN {K:List Nat}{n:Nat}:∀ {l:List AV} {j:Nat} {a:AV},(AV.ups K n l)[j]? =some a→∃x,l[j]? =some x∧a=x.up K n
 |[],j,a,h=>by simp[AV.ups] at h
 |x::l,0,a,h=>by simp only[AV.ups,List.getElem?_cons_zero,Option.some.injEq] at h;exact⟨x,rfl,h.symm⟩
 |x::l,j+1,a,h=>by simp only[AV.ups,List.getElem?_cons_succ] at h ⊢;exact DN h
theorem yC {t:Tr (Tr AV)}:∀ {l:List (Nat×List AV)},Eb t l=true→∀g c,(KW l).get g=some c→∃x,t.get g=some x∧∀i v,c.get i=some v→x.get i=some v
 |[],_,g,c,h=>by simp[KW,Tr.wv] at h
 |(g0,c0)::l,h,g,c,hg=>by
  simp only[Eb,Bool.and_eq_true] at h
  obtain⟨h1,h2⟩:=h
  rcases Tr.dB hg with⟨e1,e2⟩|⟨_,h3⟩
  ·subst e1;subst e2
   split at h1
   ·rename_i x hx
    refine⟨x,hx,fun i v hi=>?_⟩
    have:=mU h1 i v (Tr.df hi)
    simpa using this
   ·cases h1
  ·exact yC h2 g c h3
theorem sa {t:St}{K:List Nat}:∀ {ks:List Nat} {bl:List (List AV)},mZ t K ks bl=true→ks.length=bl.length∧∀ (i:Nat) (l:List AV),bl[i]? =some l→∃ (k:Nat) (c:Tr AV) (n:Nat),ks[i]? =some k∧t.h.get k=some (.cells c n)∧n=l.length∧∀ (j:Nat) (a:AV),l[j]? =some a→c.get j=some (a.ren K)
 |[],[],_=>⟨rfl,fun i l h=>by simp at h⟩
 |[],_::_,h=>by simp[mZ] at h
 | _::_,[],h=>by simp[mZ] at h
 |k::ks,b::bs,h=>by
  simp only[mZ,Bool.and_eq_true] at h
  obtain⟨h1,h2⟩:=h
  obtain⟨e,hr⟩:=sa h2
  refine⟨by simp[e],fun i l hl=>?_⟩
  cases i with
  |zero=>
   simp only[List.getElem?_cons_zero,Option.some.injEq] at hl
   subst hl
   split at h1
   ·rename_i c n hc
    simp only[Bool.and_eq_true,Nat.beq_eq] at h1
    refine⟨k,c,n,rfl,hc,h1.1,fun j a hj=>?_⟩
    have:=mU h1.2 j _ (AS hj)
    simpa using this
   ·cases h1
  |succ i=>
   obtain⟨k',c,n,g1,g2⟩:=hr i l (by simpa using hl)
   exact⟨k',c,n,by simpa using g1,g2⟩
theorem vM {a:Nat}:∀ {l:List Nat},a∈l→du a l=true
 |[],h=>by cases h
 |b::l,h=>by
  simp only[du]
  split
  ·rfl
  ·rename_i e
   have hne:a≠b:=fun x=>by subst x;simp[Nat.beq_refl] at e
   rcases List.mem_cons.mp h with x|x
   ·exact absurd x hne
   ·exact vM x
theorem wS:∀ {K:List Nat},yY K=true→∀ (i j k:Nat),K[i]? =some k→K[j]? =some k→i=j
 |[],_,i,j,k,h,_=>by simp at h
 |a::l,h,i,j,k,hi,hj=>by
  simp only[yY,Bool.and_eq_true,Bool.not_eq_true'] at h
  cases i with
  |zero=>
   cases j with
   |zero=>rfl
   |succ j=>
    simp only[List.getElem?_cons_zero,Option.some.injEq,List.getElem?_cons_succ] at hi hj
    subst hi
    have:=vM (List.mem_of_getElem? hj)
    rw[h.1] at this;cases this
  |succ i=>
   cases j with
   |zero=>
    simp only[List.getElem?_cons_zero,Option.some.injEq,List.getElem?_cons_succ] at hi hj
    subst hj
    have:=vM (List.mem_of_getElem? hi)
    rw[h.1] at this;cases this
   |succ j=>
    simp only[List.getElem?_cons_succ] at hi hj
    rw[wS h.2 i j k hi hj]
theorem AR {tsh msh:List Nat}:∀ {K:List Nat} {i:Nat},Jv tsh msh i K=true→∀ (j k:Nat),K[j]? =some k→du (i+j) msh=false→du k tsh=false
 |[],i,h,j,k,hk,_=>by simp at hk
 |x::K,i,h,j,k,hk,hn=>by
  simp only[Jv,Bool.and_eq_true,Bool.or_eq_true,Bool.not_eq_true'] at h
  cases j with
  |zero=>
   simp only[List.getElem?_cons_zero,Option.some.injEq] at hk
   subst hk
   rcases h.1 with h1|h1
   ·rw[Nat.add_zero] at hn;rw[hn] at h1;cases h1
   ·exact h1
  |succ j=>exact AR h.2 j k (by simpa using hk) (by rw[←hn];congr 1;omega)
theorem vh {a b:Nat}{l:List Nat}(h:du a (b::l)=false):a≠b∧du a l=false:=by
 simp only[du] at h
 split at h
 ·cases h
 ·rename_i e
  exact⟨fun x=>by subst x;simp[Nat.beq_refl] at e,h⟩
theorem Br {n b:Nat}:∀ {ms l:List Nat},du b (FG n ms l)=false→du b l=false
 |[],_,h=>h
 | _::is,_,h=>Br (ms:=is) (vh h).2
theorem BP {n i:Nat}:∀ {ms l:List Nat},du (n+i) (FG n ms l)=false→du i ms=false
 |[],l,h=>rfl
 |j::js,l,h=>by
  obtain⟨h1,h2⟩:=vh h
  have:=BP (ms:=js) h2
  simp only[du]
  split
  ·rename_i e;have:=Nat.eq_of_beq_eq_true e;omega
  ·exact this
theorem Jf {P:Program}{X:Ctx}(hX:dC P X)(hF:∀f fn,X.fns.get f=some fn→qN fn=true){own:bk}(ho:oI P own){n:Nat}{f:FuncId}(m:xM)
  (h:m.ok (jr X own n f m.args m.st0)=true):fG P f m.own:=by
 intro args s r hr ι w cargs hv hH
 unfold xM.own at hr
 split at hr
 ·rename_i hc
  cases hr
  simp only[Bool.and_eq_true] at hc
  obtain⟨hca,hcg⟩:=hc
  have ea:=AV.uV hca
  subst ea
  unfold xM.ok at h
  split at h
  ·rename_i v t he
   simp only[Bool.and_eq_true] at h
   obtain⟨⟨⟨⟨q1,q2⟩,q3⟩,q4⟩,q5⟩:=h
   have hno:∀cb,¬Own Inj.nil m.st0 cb:=fun cb ⟨b,d,ab,h,_⟩=>by cases h
   have hH0:HR P Inj.nil m.st0 w:=by
    refine⟨fun g c hg=>?_,fun _ _ _ h=>(by cases h),fun _ _ h=>(by cases h),fun _ _ _ _ h=>(by cases h),fun _ _ _ _ _ _ _ h=>(by cases h)⟩
    obtain⟨x,hx,hxc⟩:=yC hcg g c hg
    obtain⟨_,cs,e,fz,h2,h3⟩:=hH.gl g x hx
    exact⟨hno g,cs,e,fz,h2,fun i v hi=>h3 i v (hxc i v hi)⟩
   obtain⟨e1,e2⟩:=kO hX hF ho n he (VRs.flat q5 hv) hH0
   refine .inl ⟨e1,CallsIn.mono e2 fun e w' hp=>?_⟩
   cases e with
   |panicked c=>obtain⟨v',s'',e,_⟩:=hp;cases e
   |outgrown=>exact hp.elim
   |returned cv=>
    obtain⟨v',t',e,κ,g1,g2,g3⟩:=hp
    cases e
    obtain⟨hlen,hbl⟩:=sa q2
    have far:∀k cb d ab,κ k=some (cb,d)→t.h.get k=some ab→w.heap.size≤cb:=fun k cb d ab h1 h2=>by
     rcases Nat.lt_or_ge cb w.heap.size with hlt|hge
     ·exact absurd ⟨k,d,ab,h1,h2⟩ (g3.iV cb hlt (hno cb)).2
     ·exact hge
    let μ:Inj:=fun b=>if b<s.nx then ι b else match m.K[b- s.nx]? with|some k=>κ k|none=>none
    have μold:∀b,b<s.nx→μ b=ι b:=fun b hb=>by show(if b<s.nx then ι b else _)=_;rw[if_pos hb]
    have μnew:∀i,μ (s.nx+i)=match m.K[i]? with|some k=>κ k|none=>none:=fun i=>by
     show(if s.nx+i<s.nx then _ else _)=_
     rw[if_neg (by omega),Nat.add_sub_cancel_left]
    have μK:∀b k x,m.K[b]? =some k→κ k=some x→μ (s.nx+b)=some x:=fun b k x h1 h2=>by rw[μnew,h1];exact h2
    have hle:ι.le μ:=fun b x hb=>by rw[μold b (hH.dom b x hb)];exact hb
    obtain⟨an,ag,ash⟩:=xY m.K s.nx m.bl s
    have live:∀b cb d ab,μ b=some (cb,d)→(j7 m.K s.nx m.bl s).h.get b=some ab→
      (b<s.nx∧ι b=some (cb,d)∧s.h.get b=some ab)∨(∃ (i:Nat) (l:List AV) (k:Nat) (c:Tr AV) (nn:Nat),b=s.nx+i∧m.bl[i]? =some l∧ab= .cells (Tr.of (AV.ups m.K s.nx l)) l.length∧m.K[i]? =some k∧κ k=some (cb,d)∧t.h.get k=some (.cells c nn)∧nn=l.length∧∀ (j:Nat) (a:AV),l[j]? =some a→c.get j=some (a.ren m.K)):=by
     intro b cb d ab hb hg
     rcases vj m.K s.nx m.bl s b ab hg with⟨i,l,h1,h2,h3⟩|⟨h1,h2⟩
     ·obtain⟨k,c,nn,k1,k2,k3,k4⟩:=hbl i l h2
      subst h1
      rw[μnew,k1] at hb
      exact .inr ⟨i,l,k,c,nn,rfl,h2,h3,k1,hb,k2,k3,k4⟩
     ·rcases Nat.lt_or_ge b s.nx with hlt|hge
      ·rw[μold b hlt] at hb
       exact .inl ⟨hlt,hb,h2⟩
      ·exfalso
       obtain⟨i,rfl⟩:∃i,b=s.nx+i:=⟨b- s.nx,by omega⟩
       rw[μnew] at hb
       have:m.K[i]? =none:=List.getElem?_eq_none (by omega)
       rw[this] at hb
       cases hb
    have hE:Ext ι s w μ {j7 m.K s.nx m.bl s with sh:=FG s.nx m.sh s.sh} w':=by
     refine⟨hle,g3.size,fun cb hcb ho'=>⟨(g3.iV cb hcb (hno cb)).1,?_⟩,fun b hb=>μold b hb,by show s.nx≤(j7 m.K s.nx m.bl s).nx;omega,g3.kin⟩
     rintro⟨b,d,ab,hb,hg⟩
     rcases live b cb d ab hb hg with⟨_,h2,h3⟩|⟨i,l,k,c,nn,_,_,_,_,h5,h6,_⟩
     ·exact ho' ⟨b,d,ab,h2,h3⟩
     ·have:=far k cb d _ h5 h6;omega
    refine⟨_,_,rfl,μ,VR.up μK (by rw[AV.zk q1];exact g1),⟨hH.gl.ext hE ag,?_,?_,?_,?_⟩,hE⟩
    ·intro b cb d hb hs
     replace hs:du b (FG s.nx m.sh s.sh)=false:=hs
     rcases Nat.lt_or_ge b s.nx with hlt|hge
     ·rw[μold b hlt] at hb
      exact hH.base b cb d hb (Br hs)
     ·obtain⟨i,rfl⟩:∃i,b=s.nx+i:=⟨b- s.nx,by omega⟩
      rw[μnew] at hb
      cases hk:m.K[i]? with
      |none=>rw[hk] at hb;cases hb
      |some k=>
       rw[hk] at hb
       exact g2.base k cb d hb (AR q4 i k hk (by rw[Nat.zero_add];exact BP hs))
    ·intro b x hb
     show b<(j7 m.K s.nx m.bl s).nx
     rcases Nat.lt_or_ge b s.nx with hlt|hge
     ·omega
     ·obtain⟨i,rfl⟩:∃i,b=s.nx+i:=⟨b- s.nx,by omega⟩
      rw[μnew] at hb
      cases hk:m.K[i]? with
      |none=>rw[hk] at hb;cases hb
      |some k=>
       have:=(List.getElem?_eq_some_iff.mp hk).1
       omega
    ·intro b cb d ab hb hg
     rcases live b cb d ab hb hg with⟨_,h2,h3⟩|⟨i,l,k,c,nn,_,_,h3,_,h5,h6,h7,h8⟩
     ·have hbr:=hH.br b cb d ab h2 h3
      exact hbr.frame (g3.iV cb hbr.lt (hno cb)).1 hle
     ·subst h3
      obtain⟨cs,e,fz,z1,z2,z3,z4⟩:=g2.br k cb d _ h5 h6
      refine⟨cs,e,fz,z1,z2,fun j a hj=>?_,fun hw=>z4 (by omega)⟩
      obtain⟨x,y1,y2⟩:=DN (Tr.df hj)
      obtain⟨w1,w2,cv',w3,w4⟩:=z3 j _ (h8 j x y1)
      subst y2
      exact⟨by omega,w2,cv',w3,VR.up μK w4⟩
    ·intro b b' cb d d' ab ab' h1 h2 k1 k2
     rcases live b cb d ab h1 k1 with⟨_,x2,x3⟩|⟨i,l,k,c,nn,x1,_,_,x4,x5,x6,_⟩<;>rcases live b' cb d' ab' h2 k2 with⟨_,y2,y3⟩|⟨i',l',k',c',nn',y1,_,_,y4,y5,y6,_⟩
     ·exact hH.inj b b' cb d d' ab ab' x2 y2 x3 y3
     ·have:=(hH.br b cb d ab x2 x3).lt
      have:=far k' cb d' _ y5 y6
      omega
     ·have:=(hH.br b' cb d' ab' y2 y3).lt
      have:=far k cb d _ x5 x6
      omega
     ·have ek:=g2.inj k k' cb d d' _ _ x5 y5 x6 y6
      subst ek
      rw[x1,y1,wS q3 i i' k x4 y4]
  ·cases h
 ·cases hr
end Go.Am
end
section
namespace Go.Proofs.Ytofohkdkpbigiaa
open Go.Am
set_option maxRecDepth 100000
abbrev OL:=List (FuncId× (List AV→St→Option CR))
theorem FY:∀f fn,X.fns.get f=some fn→qN fn=true:=Jh fns
theorem NZ:fG Try.prog 64 mQ:=Dx ctx FY fun ho hl=>Ku ho hl
theorem Oq:fG Try.prog 41 mQ:=Dx ctx FY fun ho hl=>KY ho hl
theorem ME:fG Try.prog 92 pF:=Aw ⟨_,Try.func92,rfl,rfl,rfl,rfl⟩
theorem P4:fG Try.prog 95 ml:=GX ctx (ps:= #[52,52]) ⟨_,Try.func95,rfl,rfl,rfl,rfl⟩ rfl bF bX
theorem P6:fG Try.prog 97 ml:=GX ctx (ps:= #[70,70]) ⟨_,Try.func97,rfl,rfl,rfl,rfl⟩ rfl bU bK
theorem Cl {f:FuncId}{g:List AV→St→Option CR}(h:fG Try.prog f g):∀p∈([(f,g)]:OL),fG Try.prog p.1 p.2:=by
 intro p hp
 rcases List.mem_singleton.mp hp with rfl
 exact h
theorem Ou:fG Try.prog 89 (lM 2):=Ej (X:=X) ctx FY (O1:=C8 [(95,ml)]) (u0 (Cl P4)) (by decide) rfl fun h=>K0 rfl rfl h
theorem On:fG Try.prog 91 (lM 1):=Ej (X:=X) ctx FY (O1:=C8 [(97,ml)]) (u0 (Cl P6)) (by decide) rfl fun h=>L6 rfl rfl h
noncomputable def base:OL:=[(64,mQ),(41,mQ),(92,pF),(89,lM 2),(91,lM 1)]
theorem DP:∀p∈base,fG Try.prog p.1 p.2:=by
 intro p hp
 simp only[base,List.mem_cons,List.not_mem_nil,or_false] at hp
 rcases hp with rfl|rfl|rfl|rfl|rfl
 ·exact NZ
 ·exact Oq
 ·exact ME
 ·exact Ou
 ·exact On
noncomputable def awM:xM:={args:=[],v:= .bool true,K:=[],bl:=[],gl:=[],sh:=[]}
theorem Mw:awM.ok (jr X (C8 base) 1000 11 awM.args awM.st0)=true:=by decide+kernel
theorem Qo:fG Try.prog 11 Ds:=by
 have h:=Jf ctx FY (u0 DP) (f:=11) (n:=1000) awM (by exact Mw)
 intro args s r hr
 unfold Ds at hr
 split at hr
 ·cases hr
  exact h [] s _ rfl
 ·cases hr
noncomputable def O:bk:=C8 (base++[(11,Ds)])
theorem Qm:oI Try.prog O:=u0 fun p hp=>by
 rcases List.mem_append.mp hp with h|h
 ·exact DP p h
 ·exact Cl Qo p h
theorem ID:GR O:=by repeat' (first|rfl|constructor)
end Go.Proofs.Ytofohkdkpbigiaa
end
namespace Go.Proofs.Ytofohkdkpbigiaa.applyTimes
open Go.ChangeShapes Go.WideShapes Go.ChangeAt Go.RowKit
open Go.Am (Ctx dC nB jr isTrue wF sq VRs VR lB j0 nM cn fF)
theorem own:ownKnob Try.prog.godebug=none:=by kernel_rfl
theorem qU {P:Program}{w:World}{r:Reach}{base:Nat}{t:TypeId}{v:Value}{k:IntKind}(ht:P.underlying t=some (.int k))(h:Value.okWide P w r base t v):∃n,v= .int k n∧k.has n:=by
 simp only[Value.okWide,ht,Cell.okWide] at h
 cases v<;>simp_all [Cell.ok]
theorem four {α:Type}:∀ {l:List α},l.length=4→∃a b c d,l=[a,b,c,d]
 |[a,b,c,d],_=>⟨a,b,c,d,rfl⟩
theorem Cy {n:Int}(h:IntKind.u8.has n):∃m:Nat,n=(m:Int)∧m≤255:=by
 have h1:0≤n:=h.1
 have h2:n≤255:=h.2
 exact⟨n.toNat,by omega,by omega⟩
theorem walk {t d a:Nat}{b:Bool}(ht:t≤255)(hd:d≤255)(ha:a≤255)(w:World):
  Calls Try.prog 3 #[.int .u8 (t:Int), .int .u8 (d:Int), .int .u8 (a:Int), .bool b] w fun e w'=>e= .returned (.bool true)∧nB w w':=by
 obtain⟨n,q,h1,s',rfl⟩:=IS ID (s:=Go.Am.St.nil) (fun _ _=>Go.Am.Tr.wv _) ht hd ha (b:=b)
 have h2:jr X O n 3 [.int .u8 (t:Int), .int .u8 (d:Int), .int .u8 (a:Int), .bool b] Go.Am.St.nil=some (.ret (.bool true) s'):=by
  simpa only[cn,fF,ID.times,jr] using h1
 have h3:isTrue (jr X O n 3 [.int .u8 (t:Int), .int .u8 (d:Int), .int .u8 (a:Int), .bool b] Go.Am.St.nil)=true:=by rw[h2];rfl
 have h4:VRs Go.Am.Inj.nil [.int .u8 (t:Int), .int .u8 (d:Int), .int .u8 (a:Int), .bool b] (#[.int .u8 (t:Int), .int .u8 (d:Int), .int .u8 (a:Int), .bool b]:Array Value).toList:=by simp[VRs,VR]
 exact wF (X:=X) ctx FY Qm h3 h4
set_option maxRecDepth 100000 in
theorem lifted (os:Os)(started:os.Started)(H:Type)(enc:TypeId×Value→H):
  ReturnsInHanded {} Try.checked os 3 .any (Rows.applyTimesSpec.pre6 enc Try.prog Try.f3 Rows.applyTimesRow.domain false) (Rows.applyTimesSpec.post enc Try.prog Try.f3 false true false false):=by
 refine returnsInHanded_of_change (C:=Try.checked) own started (by kernel_rfl) Try.func3
  (ChangeSpec.witness6 (enc:=enc) (C:=Try.checked) false ⟨#[], #[.int .u8 0, .int .u8 0, .int .u8 0, .bool false],[]⟩ 8 (by kernel_rfl) (by kernel_rfl) (by kernel_rfl) (by kernel_rfl)) ?_
 intro W base args ds gs before hval0 hW hcnd _
 have hW':=hW
 obtain⟨p,q,hA,hV,rfl,hfz,hnd⟩:=hW
 have hV':=hV
 obtain⟨rfl,rfl⟩:=trodVars_none hV'
 simp only[List.append_nil] at hW'
 have hlt:∀x∈p,x.block<W.heap.size:=fun x hx=>by simpa using hW'.lt x hx
 have hl:=lB hA
 have hargs:∃ (t d a:Nat) (b:Bool),t≤255∧d≤255∧a≤255∧args= #[.int .u8 (t:Int), .int .u8 (d:Int), .int .u8 (a:Int), .bool b]:=by
  have hp:Try.f3.params.toList.length=4:=by kernel_rfl
  have h4:args.toList.length=4:=hl.symm.trans hp
  obtain⟨v1,v2,v3,v4,ha⟩:=four h4
  have g:∀ (j:Nat) (ty:TypeId) (v:Value),Try.f3.params[j]? =some ty→[v1,v2,v3,v4][j]? =some v→Value.okWide Try.prog W .any base ty v:=fun j ty v h1 h2=>hval0 j ty v (by simpa using h1) (by rw[←ha] at h2;simpa using h2)
  obtain⟨n1,rfl,g1⟩:=qU (k:= .u8) (t:=5) (by kernel_rfl) (g 0 5 v1 (by kernel_rfl) rfl)
  obtain⟨n2,rfl,g2⟩:=qU (k:= .u8) (t:=5) (by kernel_rfl) (g 1 5 v2 (by kernel_rfl) rfl)
  obtain⟨n3,rfl,g3⟩:=qU (k:= .u8) (t:=5) (by kernel_rfl) (g 2 5 v3 (by kernel_rfl) rfl)
  obtain⟨b,rfl⟩:=okWide_bool (t:=4) (by kernel_rfl) (g 3 4 v4 (by kernel_rfl) rfl)
  obtain⟨m1,rfl,k1⟩:=Cy g1
  obtain⟨m2,rfl,k2⟩:=Cy g2
  obtain⟨m3,rfl,k3⟩:=Cy g3
  exact⟨m1,m2,m3,b,k1,k2,k3,Array.toList_inj.mp ha⟩
 obtain⟨t,d,a,b,k1,k2,k3,eargs⟩:=hargs
 rw[eargs]
 refine(walk k1 k2 k3 W).mono fun e W' ⟨he,hg⟩=>?_
 subst he
 have hsp:Rows.applyTimesSpec.fn H (ds++[])={results:=[.lit (.bool true)],args:=ds}:=by
  have hl2:ds.length=4:=(j0 hA).symm.trans (by kernel_rfl)
  match ds,hl2 with
  |[_,_,_,_],_=>rfl
 rw[←eargs]
 refine⟨_,rfl,sq (pa:=p) (pv:=[]) hW' (fun _ _ _=>?_) (fun sp hsp'=>?_) (fun _ _=>?_) (by simp) hg (ok_one (by kernel_rfl) rfl (okWide_bool_mk Try.underlying4 _))⟩
 ·rw[hsp];exact trodAll_cons_mk (shut_bool Try.underlying4 _) trodAll_mk0
 ·rw[hsp];exact nM (by kernel_rfl) hg (by kernel_rfl) hA hlt hsp'
 ·rw[hsp];rfl
theorem P9:Rows.applyTimesRow.holds Try.pinned (OpenSpec.ofChange Rows.applyTimesSpec):=
 OpenClaim.holds_of_wide 3 Try.f3 rfl rfl rfl rfl rfl rfl rfl ⟨rfl,rfl,rfl,rfl,rfl⟩ rfl rfl rfl rfl rfl (by kernel_rfl) Try.func3 (by kernel_rfl)
  (of_decide_eq_true (by kernel_rfl)) (by unfold Func.isWrapper;first|(rw[if_pos (by decide+kernel)];kernel_rfl)|(rw[if_neg (by decide+kernel)];exact⟨rfl,rfl⟩))
  (fun os started H enc _=>lifted os started H enc)
theorem proved:Rows.ApplyTimesSaid:=
 P9
#print axioms proved
end Go.Proofs.Ytofohkdkpbigiaa.applyTimes
