/-
  A part of the texts.
-/
import Derived.Laws.Cells
import Derived.Laws.Entries
import Derived.Laws.World
import Derived.Laws.StructEq
import Derived.Test.YtofohkdkpbigiaaQab
section
namespace Go.Am
variable {P:Program}
def ER (ι:Inj)(p:AV×AV)(e:MapEntry):Prop:=VR ι p.1 e.key∧VR ι p.2 e.val
inductive ERs (ι:Inj):List (AV×AV)→List MapEntry→Prop
 |nil:ERs ι [] []
 |cons {p:AV×AV} {e:MapEntry} {es:List (AV×AV)} {l:List MapEntry}:ER ι p e→ERs ι es l→ERs ι (p::es) (e::l)
theorem ERs.mono {ι κ:Inj}(h:ι.le κ){es:List (AV×AV)}{l:List MapEntry}(hr:ERs ι es l):ERs κ es l:=by
 induction hr with
 |nil=>exact .nil
 |cons h1 _ ih=>exact .cons ⟨h1.1.mono h,h1.2.mono h⟩ ih
def KD (es:List (AV×AV)):Prop:=es.Pairwise fun p q=>fA p.1 q.1=some false
def LR:LSt→Loop→Prop
 | .ready,r=>r.state= .ready∧r.pending=none
 | .busy,r=>r.state= .busy
 | .done c,r=>r.state= .done∧r.pending=some c
def BR (P:Program)(ι:Inj)(w:World)(cb:Nat)(d:Nat×Nat):AB→Prop
 | .cells c n=>∃cs e fz,w.heap[cb]? =some (.cells cs e fz)∧(∀j,j<d.2→j<cs.size∧¬(fz.1≤j∧j<fz.2))∧(∀i v,c.get i=some v→i<n∧d.1+i<d.2∧∃cv,cs[d.1+i]? =some cv∧VR ι v cv)∧(n<jK→¬(fz.1≤cs.size∧cs.size<fz.2))
 | .map es=>d=(0,0)∧KD es∧∃l clock,w.heap[cb]? =some (.map l clock)∧(∃l',l'.Perm l.toList∧ERs ι es l')∧(l.toList.map (·.born)).Nodup∧∀e∈l.toList,e.born<clock
 | .loop t ps QE bd st=>d=(0,0)∧∃r N,w.heap[cb]? =some (.loop r)∧(∃f,P.funcs[r.fn]? =some f)∧r.params.toList=ps∧r.assign=QE∧r.body=bd∧LR st r∧N≤r.tmps.size∧N≤1000000000∧dg N QE=true∧dg N bd=true∧quiet QE=true∧quiet bd=true∧(∀p∈ps,p<N)∧∀k v,t.get k=some v→∃cv,r.tmps[k]? =some cv∧VR ι v cv
 | .dfr=>d=(0,0)∧w.heap[cb]? =some (.deferred (some []))
theorem BR.some {ι:Inj}{w:World}{cb:Nat}{d:Nat×Nat}{ab:AB}(h:BR P ι w cb d ab):∃o,w.heap[cb]? =some o:=by
 cases ab with
 |cells c n=>obtain⟨cs,e,fz,h1,_⟩:=h;exact⟨_,h1⟩
 |map es=>obtain⟨_,_,l,k,h1,_⟩:=h;exact⟨_,h1⟩
 |loop t ps QE bd st=>obtain⟨_,r,N,h1,_⟩:=h;exact⟨_,h1⟩
 |dfr=>exact⟨_,h.2⟩
theorem BR.lt {ι:Inj}{w:World}{cb:Nat}{d:Nat×Nat}{ab:AB}(h:BR P ι w cb d ab):cb<w.heap.size:=by
 obtain⟨o,ho⟩:=h.some
 rcases Nat.lt_or_ge cb w.heap.size with h|h
 ·exact h
 ·rw[Array.getElem?_eq_none h] at ho;cases ho
theorem BR.frame {ι κ:Inj}{w w':World}{cb:Nat}{d:Nat×Nat}{ab:AB}(h:BR P ι w cb d ab)(hk:w'.heap[cb]? =w.heap[cb]?)(hl:ι.le κ):BR P κ w' cb d ab:=by
 cases ab with
 |cells c n=>
  obtain⟨cs,e,fz,h1,h0,h2,h3⟩:=h
  refine⟨cs,e,fz,hk.trans h1,h0,fun i v hv=>?_,h3⟩
  obtain⟨a,b,cv,c,d⟩:=h2 i v hv
  exact⟨a,b,cv,c,d.mono hl⟩
 |map es=>
  obtain⟨h0,hd,l,k,h1,⟨l',hp,hr⟩,h3⟩:=h
  exact⟨h0,hd,l,k,hk.trans h1,⟨l',hp,hr.mono hl⟩,h3⟩
 |loop t ps QE bd st=>
  obtain⟨h0,r,N,h1,hx,h2,h3,h4,h5,h6,h7,h8,h9,h10,h11,h13,h12⟩:=h
  exact⟨h0,r,N,hk.trans h1,hx,h2,h3,h4,h5,h6,h7,h8,h9,h10,h11,h13,fun k v hv=>let⟨cv,a,b⟩:=h12 k v hv;⟨cv,a,b.mono hl⟩⟩
 |dfr=>exact⟨h.1,hk.trans h.2⟩
def Own (ι:Inj)(s:St)(cb:Nat):Prop:=∃b d ab,ι b=some (cb,d)∧s.h.get b=some ab
def Inj.nil:Inj:=fun _=>none
theorem Inj.nil_le (ι:Inj):Inj.nil.le ι:=fun _ _ h=>by cases h
def GL (ι:Inj)(s:St)(w:World):Prop:=∀g c,s.gl.get g=some c→¬Own ι s g∧∃cs e fz,w.heap[g]? =some (.cells cs e fz)∧∀i v,c.get i=some v→∃cv,cs[i]? =some cv∧VR Inj.nil v cv
theorem GL.lt {ι:Inj}{s:St}{w:World}(h:GL ι s w){g:Nat}{c:Tr AV}(hg:s.gl.get g=some c):g<w.heap.size:=by
 obtain⟨_,cs,e,fz,h1,_⟩:=h g c hg
 exact(Array.getElem?_eq_some_iff.mp h1).1
structure HR (P:Program)(ι:Inj)(s:St)(w:World):Prop where
 gl:GL ι s w
 base:∀b cb d,ι b=some (cb,d)→du b s.sh=false→d.1=0
 dom:∀b x,ι b=some x→b<s.nx
 br:∀b cb d ab,ι b=some (cb,d)→s.h.get b=some ab→BR P ι w cb d ab
 inj:∀b b' cb d d' ab ab',ι b=some (cb,d)→ι b'=some (cb,d')→s.h.get b=some ab→s.h.get b'=some ab'→b=b'
def Kin (w v:World):Prop:=v.os=w.os∧v.output=w.output
theorem Kin.refl (w:World):Kin w w:=⟨rfl,rfl⟩
theorem Kin.trans {w v u:World}(h:Kin w v)(h':Kin v u):Kin w u:=⟨h'.1.trans h.1,h'.2.trans h.2⟩
structure Ext (ι:Inj)(s:St)(w:World)(κ:Inj)(t:St)(v:World):Prop where
 le:ι.le κ
 size:w.heap.size≤v.heap.size
 iV:∀cb,cb<w.heap.size→¬Own ι s cb→v.heap[cb]? =w.heap[cb]? ∧¬Own κ t cb
 old:∀b,b<s.nx→κ b=ι b
 nx:s.nx≤t.nx
 kin:Kin w v
theorem GL.ext {ι κ:Inj}{s t:St}{w v:World}(h:GL ι s w)(he:Ext ι s w κ t v)(hg:t.gl=s.gl):GL κ t v:=fun g c hc=>by
 rw[hg] at hc
 obtain⟨h1,cs,e,fz,h2,h3⟩:=h g c hc
 obtain⟨k1,k2⟩:=he.iV g (h.lt hc) h1
 exact⟨k2,cs,e,fz,k1.trans h2,h3⟩
theorem Ext.refl (ι:Inj)(s:St)(w:World):Ext ι s w ι s w:=⟨ι.le_refl,Nat.le_refl _,fun _ _ h=>⟨rfl,h⟩,fun _ _=>rfl,Nat.le_refl _,Kin.refl _⟩
theorem Ext.trans {ι κ μ:Inj}{s t u:St}{w v x:World}(h:Ext ι s w κ t v)(h':Ext κ t v μ u x):Ext ι s w μ u x:=
 ⟨Inj.le_trans h.le h'.le,Nat.le_trans h.size h'.size,fun cb hcb ho=>
  let⟨a,b⟩:=h.iV cb hcb ho
  let⟨c,d⟩:=h'.iV cb (Nat.lt_of_lt_of_le hcb h.size) b
  ⟨c.trans a,d⟩,fun b hb=>(h'.old b (Nat.lt_of_lt_of_le hb h.nx)).trans (h.old b hb),Nat.le_trans h.nx h'.nx,h.kin.trans h'.kin⟩
theorem Ext.heap {ι:Inj}{s:St}{w v:World}(h:v.heap=w.heap)(hk:Kin w v):Ext ι s w ι s v:=⟨ι.le_refl,by rw[h];exact Nat.le_refl _,fun _ _ ho=>⟨by rw[h],ho⟩,fun _ _=>rfl,Nat.le_refl _,hk⟩
section
variable {ι:Inj}{s:St}{w w':World}
theorem HR.heap (h:HR P ι s w)(he:w'.heap=w.heap):HR P ι s w':=
 ⟨fun g c hc=>let⟨h1,cs,e,fz,h2,h3⟩:=h.gl g c hc;⟨h1,cs,e,fz,by rw[he];exact h2,h3⟩,h.base,h.dom,fun b cb d ab h1 h2=>(h.br b cb d ab h1 h2).frame (by rw[he]) ι.le_refl,h.inj⟩
def Inj.at (ι:Inj)(b:Nat)(x:Nat×Nat×Nat):Inj:=fun c=>if c=b then some x else ι c
theorem Inj.dr (ι:Inj)(b:Nat)(x:Nat×Nat×Nat):ι.at b x b=some x:=by simp[Inj.at]
theorem Inj.yk {b:Nat}{x:Nat×Nat×Nat}(h:ι b=none):ι.le (ι.at b x):=fun c y hc=>by
 unfold Inj.at
 by_cases e:c=b
 ·subst e;rw[h] at hc;cases hc
 ·rw[if_neg e];exact hc
theorem HR.fresh (h:HR P ι s w):ι s.nx=none:=by
 cases hx:ι s.nx with
 |none=>rfl
 |some x=>exact absurd (h.dom _ _ hx) (Nat.lt_irrefl _)
theorem gS {w:World}{o:Obj}{cb:Nat}(h:cb<w.heap.size):(w.heap.push o)[cb]? =w.heap[cb]? :=by
 rw[Array.getElem?_push];split
 ·omega
 ·rfl
theorem dM {w:World}{o:Obj}:(w.heap.push o)[w.heap.size]? =some o:=by simp
theorem HR.new (h:HR P ι s w){ab:AB}{o:Obj}(z:Nat)(hh:w'.heap=w.heap.push o)(hkin:Kin w w')(hb:∀κ,ι.le κ→BR P κ w' w.heap.size (0,z) ab):
  HR P (ι.at s.nx (w.heap.size,0,z)) (s.new ab).2 w'∧Ext ι s w (ι.at s.nx (w.heap.size,0,z)) (s.new ab).2 w':=by
 have hle:ι.le (ι.at s.nx (w.heap.size,0,z)):=Inj.yk h.fresh
 have old:∀b x,b≠s.nx→(ι.at s.nx (w.heap.size,0,z)) b=some x→ι b=some x:=fun b x hb hx=>by
  unfold Inj.at at hx;rwa [if_neg hb] at hx
 have live:∀b ab',(s.new ab).2.h.get b=some ab'→(b=s.nx∧ab=ab')∨(b≠s.nx∧s.h.get b=some ab'):=fun b ab' hg=>Tr.dB hg
 suffices hE:Ext ι s w (ι.at s.nx (w.heap.size,0,z)) (s.new ab).2 w' by
  refine⟨⟨h.gl.ext hE rfl,fun b cb d hx hs=>?_,fun b x hx=>?_,fun b cb d ab' hx hg=>?_,fun b b' cb d d' ab1 ab2 h1 h2 g1 g2=>?_⟩,hE⟩
  ·by_cases e:b=s.nx
   ·subst e;rw[Inj.dr] at hx;cases hx;rfl
   ·exact h.base b cb d (old b _ e hx) hs
  ·show b<s.nx+1
   by_cases e:b=s.nx
   ·omega
   ·have:=h.dom b x (old b x e hx);omega
  ·rcases live b ab' hg with⟨e,e'⟩|⟨e,hg⟩
   ·subst e;subst e'
    rw[Inj.dr] at hx;cases hx
    exact hb _ hle
   ·have hx:=old b _ e hx
    have hbr:=h.br b cb d ab' hx hg
    exact hbr.frame (by rw[hh];exact gS hbr.lt) hle
  ·rcases live b ab1 g1 with⟨e,_⟩|⟨e,g1⟩<;>rcases live b' ab2 g2 with⟨e',_⟩|⟨e',g2⟩
   ·rw[e,e']
   ·subst e;rw[Inj.dr] at h1;cases h1
    have:=(h.br b' _ _ ab2 (old _ _ e' h2) g2).lt;omega
   ·subst e';rw[Inj.dr] at h2;cases h2
    have:=(h.br b _ _ ab1 (old _ _ e h1) g1).lt;omega
   ·exact h.inj b b' cb d d' ab1 ab2 (old _ _ e h1) (old _ _ e' h2) g1 g2
 refine⟨hle,by rw[hh];simp,fun cb hcb ho=>⟨by rw[hh];exact gS hcb,?_⟩,fun b hb=>by unfold Inj.at;rw[if_neg (by omega)],Nat.le_succ _,hkin⟩
 ·rintro⟨b,d,ab',hx,hg⟩
  rcases live b ab' hg with⟨e,_⟩|⟨e,hg⟩
  ·subst e;rw[Inj.dr] at hx;cases hx;omega
  ·exact ho ⟨b,d,ab',old _ _ e hx,hg⟩
theorem HR.put (h:HR P ι s w){b cb:Nat}{d:Nat×Nat}{ab ab':AB}(hb:ι b=some (cb,d))(hg:s.h.get b=some ab)(hkin:Kin w w')(hsz:w'.heap.size=w.heap.size)
  (hk:∀c,c≠cb→w'.heap[c]? =w.heap[c]?)(hn:BR P ι w' cb d ab'):
  HR P ι {s with h:=s.h.put b ab'} w'∧Ext ι s w ι {s with h:=s.h.put b ab'} w':=by
 suffices hE:Ext ι s w ι {s with h:=s.h.put b ab'} w' by
  refine⟨⟨h.gl.ext hE rfl,h.base,h.dom,fun c cc dd ab1 hx hg1=>?_,fun c c' cc dd dd' ab1 ab2 h1 h2 g1 g2=>?_⟩,hE⟩
  ·rcases Tr.dB hg1 with⟨e,e'⟩|⟨e,hg1⟩
   ·subst e;subst e';rw[hb] at hx;cases hx;exact hn
   ·have:cc≠cb:=fun e'=>e (h.inj c b cc dd d ab1 ab hx (e'▸hb) hg1 hg)
    exact(h.br c cc dd ab1 hx hg1).frame (hk cc this) ι.le_refl
  ·have l1:∃ab,s.h.get c=some ab:=by
    rcases Tr.dB g1 with⟨e,_⟩|⟨_,g⟩
    ·exact⟨ab,e▸hg⟩
    ·exact⟨_,g⟩
   have l2:∃ab,s.h.get c'=some ab:=by
    rcases Tr.dB g2 with⟨e,_⟩|⟨_,g⟩
    ·exact⟨ab,e▸hg⟩
    ·exact⟨_,g⟩
   obtain⟨a1,l1⟩:=l1;obtain⟨a2,l2⟩:=l2
   exact h.inj c c' cc dd dd' a1 a2 h1 h2 l1 l2
 refine⟨ι.le_refl,by rw[hsz];exact Nat.le_refl _,fun c hc ho=>⟨hk c ?_,?_⟩,fun _ _=>rfl,Nat.le_refl _,hkin⟩
 ·intro e;subst e;exact ho ⟨b,d,ab,hb,hg⟩
 ·rintro⟨c',dd,ab1,hx,hg1⟩
  rcases Tr.dB hg1 with⟨e,_⟩|⟨_,hg1⟩
  ·subst e;exact ho ⟨c',dd,ab,hx,hg⟩
  ·exact ho ⟨c',dd,ab1,hx,hg1⟩
theorem lg {b a:Nat}{l:List Nat}(h:du b (a::l)=false):b≠a∧du b l=false:=by
 unfold du at h
 split at h
 ·cases h
 ·rename_i hne;exact⟨fun e=>by rw[e] at hne;simp at hne,h⟩
theorem HR.shift (h:HR P ι s w)(b:Nat):HR P ι {s with sh:=b::s.sh} w:=
 ⟨h.gl,fun c cb d hx hs=>h.base c cb d hx (lg hs).2,h.dom,h.br,h.inj⟩
theorem HR.del (h:HR P ι s w)(b:Nat):HR P ι {s with h:=s.h.del b} w:=
 ⟨fun g c hc=>let⟨h1,h2⟩:=h.gl g c hc;⟨fun⟨b',d',ab',x1,x2⟩=>h1 ⟨b',d',ab',x1,(Tr.gz x2).2⟩,h2⟩,h.base,h.dom,fun c cc dd ab1 hx hg1=>h.br c cc dd ab1 hx (Tr.gz hg1).2,fun c c' cc dd dd' ab1 ab2 h1 h2 g1 g2=>h.inj c c' cc dd dd' ab1 ab2 h1 h2 (Tr.gz g1).2 (Tr.gz g2).2⟩
end
theorem St.eJ {s:St}{b:Nat}{c:Tr AV}{n:Nat}(h:s.cells b=some (c,n)):s.h.get b=some (.cells c n):=by
 unfold St.cells at h
 split at h
 ·rename_i c' n' hg;cases h;exact hg
 ·cases h
theorem HR.cells {ι:Inj}{s:St}{w:World}(h:HR P ι s w){b cb:Nat}{d:Nat×Nat}{c:Tr AV}{n:Nat}(hb:ι b=some (cb,d))(hg:s.cells b=some (c,n)):
  ∃cs e fz,w.heap[cb]? =some (.cells cs e fz)∧(∀j,j<d.2→j<cs.size∧¬(fz.1≤j∧j<fz.2))∧∀i v,c.get i=some v→i<n∧d.1+i<d.2∧∃cv,cs[d.1+i]? =some cv∧VR ι v cv:=
 let⟨cs,e,fz,h1,h2,h3,_⟩:=h.br b cb d _ hb (St.eJ hg);⟨cs,e,fz,h1,h2,h3⟩
theorem HR.plain {ι:Inj}{s:St}{w:World}(h:HR P ι s w){b cb:Nat}{d:Nat×Nat}{c:Tr AV}{n:Nat}(hb:ι b=some (cb,d))(hg:s.h.get b=some (.cells c n))(hn:n<jK){cs:Array Value}{e:TypeId}{fz:Nat×Nat}(hw:w.heap[cb]? =some (.cells cs e fz)):¬(fz.1≤cs.size∧cs.size<fz.2):=by
 obtain⟨cs',e',fz',h1,_,_,h3⟩:=h.br b cb d _ hb hg
 rw[hw] at h1
 cases h1
 exact h3 hn
end Go.Am
end
section
namespace Go.Am
structure dC (P:Program)(X:Ctx):Prop where
 fns:∀f fn,X.fns.get f=some fn→P.funcs[f]? =some fn
 tys:∀t i,X.tys.get t=some i→P.info? t=some i
 eqs:∀t,du t X.eqs=true→P.stoodInHeld t=false∧P.eqGuardType P.depth t=false
 mixed:P.follows .mixedOrders=true
section
variable {P:Program}
theorem Ng {eqs:List TypeId}{t:TypeId}{i:TypeInfo}(h:(Ctx.of P eqs).tys.get t=some i):P.info? t=some i:=by
 have:=Tr.df (l:=P.types.toList) h
 have h1:P.types[t]? =some i:=by simpa using this
 have h2:t<P.types.size:=by
  rcases Nat.lt_or_ge t P.types.size with h'|h'
  ·exact h'
  ·rw[Array.getElem?_eq_none h'] at h1;cases h1
 rw[Tables.info?,if_pos h2];exact h1
theorem IE {eqs:List TypeId}{f:FuncId}{fn:Func}(h:(Ctx.of P eqs).fns.get f=some fn):P.funcs[f]? =some fn:=by
 have:=Tr.df (l:=P.funcs.toList) h
 simpa using this
theorem dC.of {eqs:List TypeId}(he:∀t,du t eqs=true→P.stoodInHeld t=false∧P.eqGuardType P.depth t=false)(hm:P.follows .mixedOrders=true):dC P (Ctx.of P eqs):=
 ⟨fun _ _ h=>IE h,fun _ _ h=>Ng h,he,hm⟩
variable {X:Ctx}(hX:dC P X)
include hX
theorem vE {t:TypeId}{i:TypeInfo}(h:X.tys.get t=some i):P.info? t=some i:=hX.tys t i h
theorem fy {t:TypeId}{d:TypeDesc}(h:X.und t=some d):P.underlying t=some d:=by
 unfold Ctx.und at h
 unfold Program.underlying
 split at h
 ·rename_i i hi
  have hi:=vE hX hi
  split at h
  ·rename_i u hd
   split at h
   ·rename_i j hj
    have hj:=vE hX hj
    cases h
    obtain⟨desc,a1,a2,a3,a4,a5,a6,a7,a8,a9⟩:=i
    simp only at hd
    subst hd
    simp[hi,hj]
   ·cases h
  ·rename_i hne
   cases h
   obtain⟨desc,a1,a2,a3,a4,a5,a6,a7,a8,a9⟩:=i
   rw[hi]
   split
   ·rename_i heq;simp only[Option.some.injEq,TypeInfo.mk.injEq] at heq
    exact absurd heq.1 (hne _ _)
   ·rename_i heq;cases heq;rfl
   ·rename_i heq;cases heq
 ·cases h
theorem aL {t:TypeId}{d:TypeDesc}(h:X.und t=some d)(w:World):(underlying t).run P w= .ok d w:=run_underlying (fy hX h) w
theorem run_typeInfo {t:TypeId}{i:TypeInfo}(h:X.tys.get t=some i)(w:World):(typeInfo t).run P w= .ok i w:=by
 simp[typeInfo,vE hX h]
omit hX in
theorem ti {t:TypeId}{n:Nat}(h:X.size t=some n):∃i,X.tys.get t=some i∧i.size=n:=by
 unfold Ctx.size at h
 split at h
 ·rename_i i hi;cases h;exact⟨i,hi,rfl⟩
 ·cases h
omit hX in
theorem lv {t:TypeId}{n:Nat}(h:X.elem t=some n):∃i,X.tys.get t=some i∧i.size=n∧i.bytes≤1048576∧1≤n∧∃z,i.zero=some z∧z.cells.size=n:=by
 unfold Ctx.elem at h
 split at h
 ·rename_i i hi
  split at h
  ·rename_i z hz
   split at h
   ·rename_i hc
    simp only[Bool.and_eq_true] at hc
    cases h;exact⟨i,hi,rfl,Nat.ble_eq.mp hc.1.1.1,Nat.ble_eq.mp hc.1.1.2,z,hz,Nat.beq_eq.mp hc.1.2⟩
   ·cases h
  ·cases h
 ·cases h
omit hX in
theorem m6 {t:TypeId}{n:Nat}(h:X.elem t=some n):X.size t=some n:=by
 obtain⟨i,hi,rfl,_⟩:=lv h
 simp[Ctx.size,hi]
theorem cK {t:TypeId}{n:Nat}(h:X.size t=some n)(w:World):(sizeOf t).run P w= .ok n w:=by
 obtain⟨i,hi,rfl⟩:=ti h
 simp[sizeOf,run_typeInfo hX hi]
theorem nA {t:TypeId}{d:TypeDesc}(h:X.und t=some d)(w:World):(isAgg t).run P w= .ok (mL d) w:=by
 simp only[isAgg,Sem.run_bind,aL hX h,Result.andThen_ok]
 cases d<;>rfl
theorem fv {t:TypeId}{z:AV}(h:X.zero t=some z)(w:World):∃cz,(zeroValue t).run P w= .ok cz w∧z=ofV cz:=by
 unfold Ctx.zero at h
 split at h
 ·rename_i i hi
  split at h
  ·rename_i cz hz;cases h
   exact⟨cz,by simp[zeroValue,run_typeInfo hX hi,hz],rfl⟩
  ·cases h
 ·cases h
end
theorem VR.form {ι:Inj}{v:AV}{cv:Value}(h:VR ι v cv)(ht:v≠ .top)(ha:∀cs,v≠ .agg cs):cv.cells= #[cv]∧((∀cs,v≠ .tup cs)→cv.oneCell'=true):=by
 cases v with
 |top=>exact absurd rfl ht
 |agg cs=>exact absurd rfl (ha cs)
 |bool b=>simp only[VR] at h;subst h;exact⟨rfl,fun _=>rfl⟩
 |int k n=>simp only[VR] at h;subst h;exact⟨rfl,fun _=>rfl⟩
 |flt k n=>simp only[VR] at h;subst h;exact⟨rfl,fun _=>rfl⟩
 |str s=>simp only[VR] at h;obtain⟨_,rfl,_⟩:=h;exact⟨rfl,fun _=>rfl⟩
 |ptr a=>
  cases a with
  |none=>simp only[VR] at h;subst h;exact⟨rfl,fun _=>rfl⟩
  |some p=>simp only[VR] at h;obtain⟨_,_,_,rfl⟩:=h;exact⟨rfl,fun _=>rfl⟩
 |slc a n c x=>
  cases a with
  |none=>simp only[VR] at h;obtain⟨_,_,_,rfl⟩:=h;exact⟨rfl,fun _=>rfl⟩
  |some p=>simp only[VR] at h;obtain⟨_,_,_,_,_,rfl,_⟩:=h;exact⟨rfl,fun _=>rfl⟩
 |map r=>
  cases r with
  |none=>simp only[VR] at h;subst h;exact⟨rfl,fun _=>rfl⟩
  |some p=>simp only[VR] at h;obtain⟨_,_,_,rfl⟩:=h;exact⟨rfl,fun _=>rfl⟩
 |func f a b=>simp only[VR] at h;obtain⟨_,_,e,_⟩:=h;rw[e];exact⟨rfl,fun _=>rfl⟩
 |gp g o=>simp only[VR] at h;subst h;exact⟨rfl,fun _=>rfl⟩
 |cls k b m r=>simp only[VR] at h;obtain⟨_,rfl,_⟩:=h;exact⟨rfl,fun _=>rfl⟩
 |ne k n=>simp only[VR] at h;obtain⟨_,rfl,_⟩:=h;exact⟨rfl,fun _=>rfl⟩
 |nilFunc=>simp only[VR] at h;subst h;exact⟨rfl,fun _=>rfl⟩
 |any=>
  simp only[VR] at h
  cases cv<;>first
   |exact⟨rfl,fun _=>rfl⟩
   |exact absurd rfl (h.1 _)
   |exact absurd rfl (h.2 _)
 |yld b=>simp only[VR] at h;obtain⟨c,d,_,rfl⟩:=h;exact⟨rfl,fun _=>rfl⟩
 |iface t u=>simp only[VR] at h;obtain⟨_,rfl,_⟩:=h;exact⟨rfl,fun _=>rfl⟩
 |nilIface=>simp only[VR] at h;subst h;exact⟨rfl,fun _=>rfl⟩
 |tup cs=>simp only[VR] at h;obtain⟨_,rfl,_⟩:=h;exact⟨rfl,fun h=>absurd rfl (h cs)⟩
theorem VR.cells {ι:Inj}{v:AV}{cv:Value}(h:VR ι v cv)(ht:v≠ .top):VRs ι v.cells cv.cells.toList:=by
 by_cases ha:∃cs,v= .agg cs
 ·obtain⟨cs,rfl⟩:=ha
  simp only[VR] at h;obtain⟨x,rfl,hx⟩:=h;exact hx
 ·have hf:=(h.form ht fun cs e=>ha ⟨cs,e⟩).1
  rw[hf]
  have:v.cells=[v]:=by
   cases v<;>first|rfl|exact absurd ⟨_,rfl⟩ ha
  rw[this];exact VRs.one h
theorem VR.one {ι:Inj}{v:AV}{cv:Value}(h:VR ι v cv)(ho:v.one=true):cv.oneCell'=true:=
 (h.form (by rintro rfl;simp[AV.one] at ho) (by rintro cs rfl;simp[AV.one] at ho)).2 (by rintro cs rfl;simp[AV.one] at ho)
theorem VRs.zF {ι:Inj}:∀ {l:List AV} {m:List Value},VRs ι l m→aX l=true→∀v∈m,v.oneCell'=true
 |[],[],_,_,_,h=>by simp at h
 |[],_::_,h,_,_,_=>by simp[VRs] at h
 | _::_,[],h,_,_,_=>by simp[VRs] at h
 |a::l,v::m,h,ho,x,hx=>by
  simp only[VRs] at h
  simp[aX] at ho
  rcases List.mem_cons.1 hx with rfl|hx
  ·exact h.1.one ho.1
  ·exact VRs.zF h.2 ho.2 x hx
theorem fE {v:AV}(h:aX v.cells=true):v≠ .top:=by
 rintro rfl;simp[AV.cells,aX,AV.one] at h
theorem m4 {c:Tr AV}:∀ {n i:Nat} {l:List AV},ldL c i n=some l→l.length=n∧∀j v,l[j]? =some v→c.get (i+j)=some v
 |0,i,l,h=>by simp[ldL] at h;subst h;simp
 |n+1,i,l,h=>by
  simp only[ldL] at h
  split at h
  ·rename_i v hv
   split at h
   ·rename_i l' hl
    cases h
    obtain⟨h1,h2⟩:=m4 hl
    refine⟨by simp[h1],fun j x hx=>?_⟩
    cases j with
    |zero=>simp at hx;subst hx;exact hv
    |succ j=>have:=h2 j x (by simpa using hx);rw[←this];congr 1;omega
   ·cases h
  ·cases h
theorem BO:∀ {vs:List AV} {i:Nat} {c c':Tr AV},stL vs i c=some c'→
  (∀j,j<vs.length→∃v,c.get (i+j)=some v)∧∀j x,c'.get j=some x→(i≤j∧vs[j- i]? =some x)∨((j<i∨i+vs.length≤j)∧c.get j=some x)
 |[],i,c,c',h=>by
  simp[stL] at h;subst h
  exact⟨fun j hj=>by simp at hj,fun j x hx=> .inr ⟨by simp;omega,hx⟩⟩
 |v::vs,i,c,c',h=>by
  simp only[stL] at h
  split at h
  ·rename_i u hu
   simp only[sP,ki] at h
   obtain⟨h1,h2⟩:=BO h
   refine⟨fun j hj=>?_,fun j x hx=>?_⟩
   ·cases j with
    |zero=>exact⟨u,hu⟩
    |succ j=>
     obtain⟨y,hy⟩:=h1 j (by simpa using hj)
     rcases Tr.dB hy with⟨e,_⟩|⟨_,hy⟩
     ·omega
     ·exact⟨y,by rw[←hy];congr 1;omega⟩
   ·rcases h2 j x hx with⟨a,b⟩|⟨a,b⟩
    ·refine .inl ⟨by omega,?_⟩
     have:j- i=(j- (i+1))+1:=by omega
     rw[this];simpa using b
    ·rcases Tr.dB b with⟨e,e'⟩|⟨e,b⟩
     ·subst e;subst e';exact .inl ⟨Nat.le_refl _,by simp⟩
     ·exact .inr ⟨by simp;omega,b⟩
  ·cases h
section
variable {P:Program}{ι:Inj}{s:St}{w:World}
theorem add_eq (b o n:Nat):(⟨b,o,none⟩:Addr).add n=⟨b,o+n,none⟩:=by
 unfold Addr.add;split<;>simp_all
theorem cell_of {cb o:Nat}{cs:Array Value}{e:TypeId}{fz:Nat×Nat}{v:Value}(h:w.heap[cb]? =some (.cells cs e fz))(hv:cs[o]? =some v):
  w.cell? ⟨cb,o,none⟩=some v:=by simp[World.cell?,h,hv]
theorem FI {cb o:Nat}{cs:Array Value}{e:TypeId}{fz:Nat×Nat}(h:w.heap[cb]? =some (.cells cs e fz))(hv:¬(fz.1≤o∧o<fz.2)):
  w.frozen? ⟨cb,o,none⟩=false:=by
 simp[World.frozen?,h];omega
theorem zr {cb:Nat}{d:Nat×Nat}{c:Tr AV}{n k:Nat}{o:Nat}{l:List AV}(h:HR P ι s w)(hb:∃b,ι b=some (cb,d)∧s.cells b=some (c,n))(hl:ldL c o k=some l):
  ∃vs:List Value,(loadCells ⟨cb,d.1+o,none⟩ k).run P w= .ok vs.toArray w∧VRs ι l vs:=by
 obtain⟨b,hb,hc⟩:=hb
 obtain⟨cs,e,fz,h1,h0,h2⟩:=h.cells hb hc
 obtain⟨hlen,hget⟩:=m4 hl
 have hex:∀j,j<k→∃v cv,l[j]? =some v∧cs[d.1+(o+j)]? =some cv∧VR ι v cv:=fun j hj=>by
  have hj':j<l.length:=by omega
  have e1:l[j]? =some l[j]:=by simp[hj']
  obtain⟨_,_,cv,h3,h4⟩:=h2 _ _ (hget j _ e1)
  exact⟨_,cv,e1,h3,h4⟩
 refine⟨(List.range k).map fun j=>cs[d.1+(o+j)]?.getD undef,?_,?_⟩
 ·have hr:=run_loadCells_list (P:=P) (w:=w) ⟨cb,d.1+o,none⟩ ((List.range k).map fun j=>cs[d.1+(o+j)]?.getD undef) (fun j v hv=>by
   rw[add_eq]
   simp only[List.getElem?_map] at hv
   have hj:j<k:=by
    rcases Nat.lt_or_ge j k with h|h
    ·exact h
    ·rw[List.getElem?_eq_none (by simpa using h)] at hv;simp at hv
   rw[List.getElem?_range hj] at hv
   simp only[Option.map_some,Option.some.injEq] at hv
   obtain⟨_,cv,_,h3,_⟩:=hex j hj
   rw[h3] at hv;simp at hv;subst hv
   exact cell_of h1 (by rw[←h3];congr 1;omega))
  simpa using hr
 ·refine VRs.ext (by simp[hlen]) fun i a v ha hv=>?_
  have hi:i<k:=by
   rcases Nat.lt_or_ge i k with h|h
   ·exact h
   ·rw[List.getElem?_eq_none (by omega)] at ha;cases ha
  simp only[List.getElem?_map] at hv
  rw[List.getElem?_range hi] at hv
  simp only[Option.map_some,Option.some.injEq] at hv
  obtain⟨a',cv,h3,h4,h5⟩:=hex i hi
  rw[h3] at ha;cases ha
  rw[h4] at hv;simp at hv;subst hv;exact h5
theorem CV (cb off:Nat)(e:TypeId)(fz:Nat×Nat):∀ (vs:List Value) (i:Nat) (cs:Array Value) (w:World),w.heap[cb]? =some (.cells cs e fz)→(∀v∈vs,v.oneCell'=true)→
  (∀j,j<vs.length→off+i+j<cs.size∧¬(fz.1≤off+i+j∧off+i+j<fz.2))→
  ∃w' cs',(storeCells ⟨cb,off,none⟩ vs i).run P w= .ok () w'∧w'.heap[cb]? =some (.cells cs' e fz)∧w'.heap.size=w.heap.size∧(∀c,c≠cb→w'.heap[c]? =w.heap[c]?)∧
   Kin w w'∧cs'.size=cs.size∧∀j,cs'[j]? =if off+i≤j∧j<off+i+vs.length then vs[j- (off+i)]? else cs[j]?
 |[],i,cs,w,h,_,_=>⟨w,cs,by simp[storeCells],h,rfl,fun _ _=>rfl,Kin.refl _,rfl,fun j=>by rw[if_neg (by simp only[List.length_nil];omega)]⟩
 |v::vs,i,cs,w,h,hone,hin=>by
  obtain⟨hlt,hfr⟩:=hin 0 (by simp)
  rw[Nat.add_zero] at hlt hfr
  have hc:w.cell? ⟨cb,off+i,none⟩=some cs[off+i]:=cell_of h (by simp)
  have hf:w.frozen? ⟨cb,off+i,none⟩=false:=FI h hfr
  have hcb:cb<w.heap.size:=by
   rcases Nat.lt_or_ge cb w.heap.size with h'|h'
   ·exact h'
   ·rw[Array.getElem?_eq_none h'] at h;cases h
  have hw1:(w.setCell ⟨cb,off+i,none⟩ v).heap[cb]? =some (.cells (cs.setIfInBounds (off+i) v) e fz):=by
   simp only[World.setCell,Array.getElem?_modify]
   simp[h]
  have hoth:∀c,c≠cb→(w.setCell ⟨cb,off+i,none⟩ v).heap[c]? =w.heap[c]? :=fun c hcc=>by
   simp only[World.setCell,Array.getElem?_modify]
   rw[if_neg (Ne.symm hcc)]
  obtain⟨w',cs',h1,h2,h3,h4,h0,h5,h6⟩:=CV cb off e fz vs (i+1) _ _ hw1 (fun x hx=>hone x (List.mem_cons_of_mem _ hx)) (fun j hj=>by
   have:=hin (j+1) (by simpa using hj)
   simp only[Array.size_setIfInBounds]
   have e1:off+(i+1)+j=off+i+(j+1):=by omega
   rw[e1];exact this)
  refine⟨w',cs',?_,h2,by rw[h3];simp[World.setCell],fun c hcc=>(h4 c hcc).trans (hoth c hcc),Kin.trans ⟨rfl,rfl⟩ h0,by rw[h5];simp,fun j=>?_⟩
  ·simp only[storeCells,Sem.run_bind,add_eq]
   rw[run_store P w _ v _ (hone v (List.mem_cons_self ..))]
   simp only[hc,hf,Bool.false_eq_true,if_false,Result.andThen_ok]
   exact h1
  ·rw[h6 j]
   simp only[List.length_cons]
   by_cases a:off+(i+1)≤j∧j<off+(i+1)+vs.length
   ·rw[if_pos a,if_pos (by omega)]
    have e1:j- (off+i)=(j- (off+(i+1)))+1:=by omega
    rw[e1];simp
   ·rw[if_neg a]
    by_cases b:j=off+i
    ·subst b
     rw[if_pos (by omega)]
     have e2:off+i- (off+i)=0:=by omega
     rw[e2,Array.getElem?_setIfInBounds_self_of_lt hlt];rfl
    ·rw[if_neg (by omega)]
     rw[Array.getElem?_setIfInBounds_ne (by omega)]
theorem HR.store {b cb n:Nat}{d:Nat×Nat}{c c':Tr AV}{vs:List AV}{cvs:List Value}{o:Nat}(h:HR P ι s w)(hb:ι b=some (cb,d))(hc:s.cells b=some (c,n))(hst:stL vs o c=some c')
  (hv:VRs ι vs cvs)(hone:aX vs=true):
  ∃w',(storeCells ⟨cb,d.1+o,none⟩ cvs).run P w= .ok () w'∧HR P ι (s.qF b c' n) w'∧Ext ι s w ι (s.qF b c' n) w':=by
 obtain⟨cs,e,fz,h1,h0,h2⟩:=h.cells hb hc
 obtain⟨h3,h4⟩:=BO hst
 have hlen:=hv.length
 have hin:∀j,j<cvs.length→d.1+o+0+j<cs.size∧¬(fz.1≤d.1+o+0+j∧d.1+o+0+j<fz.2):=fun j hj=>by
  obtain⟨u,hu⟩:=h3 j (by omega)
  obtain⟨_,hz,_⟩:=h2 _ _ hu
  exact h0 _ (by omega)
 obtain⟨w',cs',g1,g2,g3,g4,g0,g5,g6⟩:=CV (P:=P) cb (d.1+o) e fz cvs 0 cs w h1 (hv.zF hone) hin
 have hn:BR P ι w' cb d (.cells c' n):=by
  refine⟨cs',e,fz,g2,fun j hj=>by rw[g5];exact h0 j hj,fun i x hx=>?_,fun hw=>by rw[g5];exact h.plain hb (St.eJ hc) hw h1⟩
  rcases h4 i x hx with⟨a,b⟩|⟨a,b⟩
  ·obtain⟨cv,hcv,hr⟩:=hv.get b
   have hi:i- o<vs.length:=by
    rcases Nat.lt_or_ge (i- o) vs.length with h'|h'
    ·exact h'
    ·rw[List.getElem?_eq_none h'] at b;cases b
   obtain⟨u,hu⟩:=h3 (i- o) hi
   have e0:o+(i- o)=i:=by omega
   rw[e0] at hu
   obtain⟨k1,k2,_⟩:=h2 _ _ hu
   refine⟨k1,k2,cv,?_,hr⟩
   rw[g6,if_pos (by omega)]
   rw[←hcv];congr 1;omega
  ·obtain⟨k1,k2,cv,k3,k4⟩:=h2 _ _ b
   refine⟨k1,k2,cv,?_,k4⟩
   rw[g6,if_neg (by omega)];exact k3
 have hp:=h.put hb (St.eJ hc) g0 g3 g4 hn
 have e1:s.qF b c' n={s with h:=s.h.put b (.cells c' n)}:=by simp[St.qF]
 rw[e1]
 exact⟨w',g1,hp.1,hp.2⟩
theorem uf {X:Ctx}(hX:dC P X){t:TypeId}{a v:AV}{ca:Value}(h:HR P ι s w)(hl:loadT X t a s=some v)(ha:VR ι a ca):
  ∃cv,(Instr.loadAt t ca).run P w= .ok cv w∧VR ι v cv:=by
 unfold loadT at hl
 split at hl
 ·rename_i b off
  split at hl
  ·rename_i c n hc
   split at hl
   ·rename_i d k hd hk
    simp only[VR] at ha
    obtain⟨cb,dd,hb,rfl⟩:=ha
    split at hl
    ·rename_i hagg
     split at hl
     ·rename_i l hl'
      cases hl
      obtain⟨vs,h1,h2⟩:=zr (P:=P) h ⟨b,hb,hc⟩ hl'
      refine⟨.agg vs.toArray,?_,?_⟩
      ·simp[Instr.loadAt,Instr.sureAddr,loadVar,nA hX hd,hagg,cK hX hk,h1]
      ·simp only[VR];exact⟨_,rfl,by simpa using h2⟩
     ·cases hl
    ·rename_i hagg
     obtain⟨cs,e,fz,h1,_,h2⟩:=h.cells hb hc
     obtain⟨_,_,cv,h3,h4⟩:=h2 _ _ hl
     refine⟨cv,?_,h4⟩
     simp[Instr.loadAt,Instr.sureAddr,loadVar,nA hX hd,hagg,cell_of h1 h3]
   ·cases hl
  ·cases hl
 ·rename_i g off
  split at hl
  ·rename_i c hc
   split at hl
   ·rename_i d hd
    simp only[VR] at ha
    subst ha
    split at hl
    ·cases hl
    ·rename_i hagg
     obtain⟨_,cs,e,fz,h1,h2⟩:=h.gl g c hc
     obtain⟨cv,h3,h4⟩:=h2 _ _ hl
     refine⟨cv,?_,h4.mono (Inj.nil_le ι)⟩
     simp[Instr.loadAt,Instr.sureAddr,loadVar,nA hX hd,hagg,cell_of h1 h3]
   ·cases hl
  ·cases hl
 ·cases hl
theorem z8 {X:Ctx}(hX:dC P X){t:TypeId}{a v:AV}{ca cv:Value}{s':St}(h:HR P ι s w)(hs:storeT X t a v s=some s')(ha:VR ι a ca)(hv:VR ι v cv):
  ∃w',(Instr.storeAt t ca cv).run P w= .ok () w'∧HR P ι s' w'∧Ext ι s w ι s' w':=by
 unfold storeT at hs
 split at hs
 ·rename_i b off
  split at hs
  ·rename_i c n hc
   split at hs
   ·rename_i k hk hone
    split at hs
    ·rename_i hlen
     split at hs
     ·rename_i c' hst
      cases hs
      simp only[VR] at ha
      obtain⟨cb,dd,hb,rfl⟩:=ha
      have hcs:=hv.cells (fE hone)
      obtain⟨w',h1,h2,h3⟩:=h.store (P:=P) hb hc hst hcs hone
      refine⟨w',?_,h2,h3⟩
      have e1:cv.cells.size=k:=by
       have:=hcs.length
       have:=Nat.beq_eq.mp hlen
       simp at*;omega
      simp[Instr.storeAt,Instr.sureAddr,storeVar,cK hX hk,e1,h1]
     ·cases hs
    ·cases hs
   ·cases hs
  ·cases hs
 ·cases hs
theorem HR.dD {cs:List AV}{cvs:Array Value}{w':World}{elem:TypeId}(h:HR P ι s w)(hv:VRs ι cs (cvs.toList.take cs.length))
  {fz:Nat×Nat}(hfz:fz=(0,0)∨False)(hw:w'.heap=w.heap.push (.cells cvs elem fz))(hkin:Kin w w'):
  HR P (ι.at s.nx (w.heap.size,0,cvs.size)) (s.jN (Tr.of cs) cs.length).2 w'∧Ext ι s w (ι.at s.nx (w.heap.size,0,cvs.size)) (s.jN (Tr.of cs) cs.length).2 w'∧(s.jN (Tr.of cs) cs.length).1=s.nx:=by
 have e1:s.jN (Tr.of cs) cs.length=s.new (.cells (Tr.of cs) cs.length):=by simp[St.jN]
 rw[e1]
 have:=h.new (z:=cvs.size) hw hkin (ab:= .cells (Tr.of cs) cs.length) (fun κ hκ=>by
  refine⟨cvs,elem,fz,by rw[hw];exact dM,fun j hj=>⟨hj,?_⟩,fun i v hi=>?_,fun _=>by rcases hfz with rfl|h'<;>simp_all⟩
  ·simp only at hj
   rcases hfz with rfl|h'
   ·simp
   ·exact h'.elim
  ·have hi:=Tr.df hi
   have hlt:i<cs.length:=by
    rcases Nat.lt_or_ge i cs.length with h'|h'
    ·exact h'
    ·rw[List.getElem?_eq_none h'] at hi;cases hi
   obtain⟨cv,h1,h2⟩:=hv.get hi
   rw[List.getElem?_take] at h1
   split at h1
   ·have h1:cvs[i]? =some cv:=by simpa using h1
    have hsz:i<cvs.size:=by
     rcases Nat.lt_or_ge i cvs.size with h'|h'
     ·exact h'
     ·rw[Array.getElem?_eq_none h'] at h1;cases h1
    exact⟨hlt,by simpa using hsz,cv,by simpa using h1,h2.mono hκ⟩
   ·exact absurd hlt (by assumption))
 exact⟨this.1,this.2,rfl⟩
end
end Go.Am
end
section
namespace Go.Am
theorem iu {k:IntKind}{n:Int}(h:fits k n=true):k.wrap n=n:=by
 have hb:k.min≤n∧n≤k.max:=by
  cases n with
  |ofNat m=>cases k<;>simp only[fits,Nat.blt_eq] at h<;>simp only[IntKind.min,IntKind.max,IntKind.bits,IntKind.signed,if_true,Bool.false_eq_true,if_false]<;>simp only[Int.ofNat_eq_natCast]<;>omega
  |negSucc m=>cases k<;>simp only[fits,Nat.blt_eq,Bool.false_eq_true] at h<;>simp only[IntKind.min,IntKind.max,IntKind.bits,IntKind.signed,if_true]<;>simp only[Int.negSucc_eq]<;>omega
 generalize n=n at hb
 unfold IntKind.wrap
 cases k<;>simp only[IntKind.min,IntKind.max,IntKind.bits,IntKind.signed,if_true,Bool.false_eq_true,if_false,Bool.true_and,Bool.false_and,decide_eq_true_eq,ge_iff_le] at hb ⊢ <;>first|omega|(split<;>omega)
theorem Kt {k:IntKind}{n b:Nat}(h:fits k (b:Int)=true)(hn:n<b):fits k (n:Int)=true:=by
 have h:fits k (.ofNat b)=true:=h
 show fits k (.ofNat n)=true
 cases k<;>simp only[fits,Nat.blt_eq] at h ⊢ <;>omega
theorem ue (k:IntKind)(n:Int):wr k n=k.wrap n:=by
 unfold wr;split
 ·rename_i h;exact(iu h).symm
 ·rfl
theorem fb (k:IntKind)(x:Int):(BitVec.ofInt k.bits x).toNat=(x % (2^k.bits:Int)).toNat:=by
 rw[BitVec.toNat_ofInt]
 congr 1
theorem ug {op:BinOp}{k:IntKind}{x y r:Int}{P:Program}{w:World}(h:bitsOf op k x y=some r):(Op.intBits op k x y).run P w= .ok (.int k r) w:=by
 unfold bitsOf at h
 cases op<;>simp only[Option.some.injEq,reduceCtorEq] at h<;>subst h<;>simp only[Op.intBits,Sem.run_pure,ue]
 ·rw[BitVec.toNat_and,fb,fb];rfl
 ·rw[BitVec.toNat_or,fb,fb];rfl
 ·rw[BitVec.toNat_xor,fb,fb];rfl
 ·rw[BitVec.toNat_and,BitVec.toNat_not,fb,fb];rfl
theorem Co {op:BinOp}{k:IntKind}{x y:Int}{v:AV}{t:TypeId}{P:Program}{w:World}{ι:Inj}(hs:op≠ .shl∧op≠ .shr)(h:jJ op k x y=some v):
  ∃cv,(binOp op t (.int k x) (.int k y)).run P w= .ok cv w∧VR ι v cv:=by
 cases op<;>simp only[jJ] at h
 case shl=>exact absurd rfl hs.1
 case shr=>exact absurd rfl hs.2
 case quo=>
  split at h
  ·cases h
  ·rename_i h0;cases h;exact⟨.int k (k.wrap (x.tdiv y)),by simp[binOp,Op.intDiv,h0],by simp[VR,ue]⟩
 case rem=>
  split at h
  ·cases h
  ·rename_i h0;cases h;exact⟨.int k (x.tmod y),by simp[binOp,Op.intDiv,h0],by simp[VR]⟩
 case add=>cases h;exact⟨.int k (k.wrap (x+y)),by simp[binOp,Op.intArith],by simp[VR,ue]⟩
 case sub=>cases h;exact⟨.int k (k.wrap (x- y)),by simp[binOp,Op.intArith],by simp[VR,ue]⟩
 case mul=>cases h;exact⟨.int k (k.wrap (x*y)),by simp[binOp,Op.intArith],by simp[VR,ue]⟩
 case eql=>cases h;exact⟨.bool (x==y),by simp[binOp,Op.intCmp],by simp only[VR]<;>rfl⟩
 case neq=>cases h;exact⟨.bool (x != y),by simp[binOp,Op.intCmp],by simp only[VR]<;>rfl⟩
 case lss=>cases h;exact⟨.bool (decide (x<y)),by simp[binOp,Op.intCmp],by simp[VR]⟩
 case leq=>cases h;exact⟨.bool (decide (x≤y)),by simp[binOp,Op.intCmp],by simp[VR]⟩
 case gtr=>cases h;exact⟨.bool (decide (x>y)),by simp[binOp,Op.intCmp],by simp[VR]⟩
 case geq=>cases h;exact⟨.bool (decide (x≥y)),by simp[binOp,Op.intCmp],by simp[VR]⟩
 all_goals
  split at h
  ·rename_i r hr;cases h
   exact⟨.int k r,by simp[binOp,ug hr],by simp[VR]⟩
  ·cases h
theorem re {op:BinOp}{k j:IntKind}{x y:Int}{v:AV}{t:TypeId}{P:Program}{w:World}{ι:Inj}(hs:op= .shl∨op= .shr)(h:oa op k x y=some v):
  ∃cv,(binOp op t (.int k x) (.int j y)).run P w= .ok cv w∧VR ι v cv:=by
 unfold oa at h
 split at h
 ·cases h
 ·rename_i h0
  rcases hs with rfl|rfl<;>simp only[Option.some.injEq] at h<;>subst h
  ·exact⟨.int k (k.wrap (x*2^min y.toNat k.bits)),by simp[binOp,Op.shift,h0],by simp[VR,ue]⟩
  ·exact⟨.int k (x.fdiv (2^min y.toNat k.bits)),by simp[binOp,Op.shift,h0],by simp[VR]⟩
theorem iF (a b:List UInt8):fW (a++b)=fW a*256^b.length+fW b:=by
 have key:∀ (b:List UInt8) (n:Nat),b.foldl (fun a b=>a*256+b.toNat) n=n*256^b.length+b.foldl (fun a b=>a*256+b.toNat) 0:=by
  intro b
  induction b with
  |nil=>intro n;simp
  |cons x b ih=>
   intro n
   simp only[List.foldl_cons,List.length_cons]
   rw[ih (n*256+x.toNat),ih (0*256+x.toNat)]
   have:n*256^ (b.length+1)=n*256*256^b.length:=by rw[Nat.pow_succ,Nat.mul_comm (256^b.length) 256,Nat.mul_assoc]
   rw[this]
   simp only[Nat.add_mul,Nat.zero_mul,Nat.zero_add]
   omega
 unfold fW
 rw[List.foldl_append,key b]
theorem m9 (x:UInt8)(l:List UInt8):fW (x::l)=x.toNat*256^l.length+fW l:=by
 have:=iF [x] l
 simpa[fW] using this
theorem oC:∀ (l:List UInt8),fW l<256^l.length
 |[]=>by simp[fW]
 |x::l=>by
  rw[m9]
  have h1:=oC l
  have h2:x.toNat<256:=UInt8.toNat_lt x
  simp only[List.length_cons,Nat.pow_succ]
  have h3:x.toNat*256^l.length≤255*256^l.length:=Nat.mul_le_mul_right _ (by omega)
  omega
theorem AF:∀ {a b:List UInt8},a.length=b.length→fW a=fW b→a=b
 |[],[],_,_=>rfl
 |[],_::_,h,_=>by simp at h
 | _::_,[],h,_=>by simp at h
 |x::a,y::b,hl,h=>by
  simp only[List.length_cons,Nat.add_right_cancel_iff] at hl
  rw[m9,m9,hl] at h
  have h1:=oC a
  have h2:=oC b
  rw[hl] at h1
  have hp:0<256^b.length:=Nat.pow_pos (by decide)
  have e1:(x.toNat*256^b.length+fW a)/256^b.length=x.toNat:=by
   rw[Nat.mul_comm,Nat.mul_add_div hp,Nat.div_eq_of_lt h1];rfl
  have e2:(y.toNat*256^b.length+fW b)/256^b.length=y.toNat:=by
   rw[Nat.mul_comm,Nat.mul_add_div hp,Nat.div_eq_of_lt h2];rfl
  have e3:x.toNat=y.toNat:=by rw[←e1,←e2,h]
  have e4:x=y:=UInt8.toNat_inj.mp e3
  subst e4
  rw[AF hl (by omega)]
theorem tu (l:List UInt8)(n:Nat):fW (l.take n)=fW l/256^ (l.length- n):=by
 have h1:=iF (l.take n) (l.drop n)
 rw[List.take_append_drop,List.length_drop] at h1
 have h2:=oC (l.drop n)
 rw[List.length_drop] at h2
 rw[h1,Nat.mul_comm,Nat.mul_add_div (Nat.pow_pos (by decide)),Nat.div_eq_of_lt h2];rfl
theorem FH (l:List UInt8)(n:Nat):fW (l.drop n)=fW l % 256^ (l.length- n):=by
 have h1:=iF (l.take n) (l.drop n)
 rw[List.take_append_drop,List.length_drop] at h1
 have h2:=oC (l.drop n)
 rw[List.length_drop] at h2
 rw[h1,Nat.mul_comm,Nat.mul_add_mod,Nat.mod_eq_of_lt h2]
theorem IH (l:List UInt8)(i:Nat)(h:i<l.length):fW l/256^ (l.length- 1- i) % 256=l[i].toNat:=by
 have h1:=tu l (i+1)
 have e:l.length- (i+1)=l.length- 1- i:=by omega
 rw[e] at h1
 rw[←h1,List.take_succ_eq_append_getElem h,iF]
 simp[fW]
theorem toList_data (s:ByteArray):s.toList=s.data.toList:=ByteArray.toList_eq s
theorem Str.NU (a b:ByteArray):Str.of (a++b)=(Str.of a).cat (Str.of b):=by
 simp[Str.of,Str.cat,ByteArray.data_append,iF]
theorem Str.CP (a b:ByteArray):(Str.of a).beq (Str.of b)=decide (a.data.toList=b.data.toList):=by
 unfold Str.beq Str.of
 by_cases h:a.data.toList=b.data.toList
 ·rw[decide_eq_true h,h];simp
 ·rw[decide_eq_false h]
  by_cases hl:a.data.toList.length=b.data.toList.length
  ·have:fW a.data.toList≠fW b.data.toList:=fun e=>h (AF hl e)
   simp only[Bool.and_eq_false_iff]
   right
   cases hb:Nat.beq (fW a.data.toList) (fW b.data.toList)
   ·rfl
   ·exact absurd (Nat.beq_eq.mp hb) this
  ·simp only[Bool.and_eq_false_iff]
   left
   cases hb:Nat.beq a.data.toList.length b.data.toList.length
   ·rfl
   ·exact absurd (Nat.beq_eq.mp hb) hl
theorem Ep:∀ (a b:List UInt8),Op.bytesLess a b=(let m:=min a.length b.length
  Nat.blt (fW (a.take m)) (fW (b.take m))|| (Nat.beq (fW (a.take m)) (fW (b.take m))&&Nat.blt a.length b.length))
 |[],[]=>by simp[Op.bytesLess,fW];rfl
 |[],_::_=>by simp[Op.bytesLess,fW,Nat.blt]
 | _::_,[]=>by simp[Op.bytesLess,fW,Nat.blt];exact⟨rfl,rfl⟩
 |x::a,y::b=>by
  have ih:=Ep a b
  simp only[Op.bytesLess,List.length_cons,ih]
  have hm:min (a.length+1) (b.length+1)=min a.length b.length+1:=by omega
  simp only[hm,List.take_succ_cons,m9]
  generalize hma:a.take (min a.length b.length)=a'
  generalize hmb:b.take (min a.length b.length)=b'
  have hla:a'.length=min a.length b.length:=by rw[←hma];simp
  have hlb:b'.length=min a.length b.length:=by rw[←hmb];simp
  have h1:=oC a'
  have h2:=oC b'
  rw[hla] at h1 ⊢
  rw[hlb] at h2 ⊢
  generalize 256^min a.length b.length=p at*
  have hx:(x<y)=(x.toNat<y.toNat):=by simp[UInt8.lt_iff_toNat_lt]
  have hxe:(x=y)=(x.toNat=y.toNat):=by simp[UInt8.toNat_inj]
  rw[Bool.eq_iff_iff]
  simp only[Bool.or_eq_true,Bool.and_eq_true,decide_eq_true_eq,beq_iff_eq,Nat.blt_eq,Nat.beq_eq,hx,hxe,Nat.add_lt_add_iff_right]
  generalize x.toNat=X
  generalize y.toNat=Y
  generalize fW a'=A at*
  generalize fW b'=B at*
  rcases Nat.lt_trichotomy X Y with h|h|h
  ·have:X*p+p≤Y*p:=by
    have:=Nat.mul_le_mul_right p (show X+1≤Y from h)
    rw[Nat.add_mul,Nat.one_mul] at this;exact this
   constructor
   ·intro _;left;omega
   ·intro _;left;exact h
  ·subst h
   constructor
   ·rintro(h|⟨_,h|⟨h,h'⟩⟩)
    ·omega
    ·left;omega
    ·right;exact⟨by omega,h'⟩
   ·rintro(h|⟨h,h'⟩)
    ·right;exact⟨rfl, .inl (by omega)⟩
    ·right;exact⟨rfl, .inr ⟨by omega,h'⟩⟩
  ·have:Y*p+p≤X*p:=by
    have:=Nat.mul_le_mul_right p (show Y+1≤X from h)
    rw[Nat.add_mul,Nat.one_mul] at this;exact this
   constructor
   ·rintro(h'|⟨h',_⟩)<;>omega
   ·rintro(h'|⟨h',_⟩)<;>omega
theorem Str.Mg (a b:ByteArray):(Str.of a).lt (Str.of b)=Op.bytesLess a.data.toList b.data.toList:=by
 rw[Ep]
 simp only[Str.lt,Str.of,tu]
theorem C0 {op:BinOp}{x y:ByteArray}{v:AV}{t:TypeId}{P:Program}{w:World}{ι:Inj}(h:B2 op (Str.of x) (Str.of y)=some v):
  ∃cv,(binOp op t (.string x) (.string y)).run P w= .ok cv w∧VR ι v cv:=by
 have hb:(Str.of x).beq (Str.of y)=(x.toList==y.toList):=by
  rw[Str.CP,toList_data,toList_data]
  rw[Bool.eq_iff_iff];simp
 have hlt:(Str.of x).lt (Str.of y)=Op.bytesLess x.toList y.toList:=by rw[Str.Mg,toList_data,toList_data]
 cases op<;>simp only[B2,hb,hlt,reduceCtorEq] at h
 case add=>
  split at h
  ·rename_i hle
   cases h
   have hle:x.size+y.size≤9223372036854775807:=by
    have:=Nat.ble_eq.mp hle
    simpa[Str.of] using this
   have hmax:¬(IntKind.i64.max<((x.size+y.size:Nat):Int)):=by
    simp only[IntKind.max,IntKind.signed,IntKind.bits,if_true];omega
   refine⟨.string (x++y),?_,?_⟩
   ·simp only[binOp,Op.stringOp,gt_iff_lt,hmax,if_false,Sem.run_pure]
   ·simp only[VR];exact⟨_,rfl,(Str.NU x y).symm⟩
  ·cases h
 all_goals
  cases h
  exact⟨_,by simp[binOp,Op.stringOp];rfl,by simp[VR]⟩
section
variable {P:Program}{X:Ctx}(hX:dC P X){ι:Inj}
include hX
theorem mo {t:TypeId}{l:List AV}{m:Array Value}{off:Nat}{v:AV}{w:World}(h:partAt X t l off=some v)(hl:VRs ι l m.toList):
  ∃cv,(part t m off).run P w= .ok cv w∧VR ι v cv:=by
 unfold partAt at h
 split at h
 ·rename_i d n hd hn
  split at h
  ·rename_i hagg
   split at h
   ·rename_i hle
    cases h
    refine⟨.agg (m.extract off (off+n)),by simp[part,nA hX hd,hagg,cK hX hn],?_⟩
    simp only[VR]
    refine⟨_,rfl,?_⟩
    have:(m.extract off (off+n)).toList=(m.toList.drop off).take n:=by
     rw[Array.toList_extract,List.extract_eq_take_drop]
     congr 1;omega
    rw[this]
    exact(hl.drop off).take n
   ·cases h
  ·rename_i hagg
   obtain⟨cv,h1,h2⟩:=hl.get h
   have h1:m[off]? =some cv:=by simpa using h1
   exact⟨cv,by simp[part,nA hX hd,hagg,h1],h2⟩
 ·cases h
theorem qf {eq:TypeId→AV→AV→Option Bool}{xs ys:List AV}{cxs cys:Array Value}{d:Nat}(hx:VRs ι xs cxs.toList)(hy:VRs ι ys cys.toList)
  (heq:∀t x y b,eq t x y=some b→∀cx cy w,VR ι x cx→VR ι y cy→(Op.equalIn d t cx cy).run P w= .ok b w):
  ∀ {fs:List Field} {b:Bool} {w:World},eqFields X eq xs ys fs=some b→(Op.eqFields d cxs cys fs).run P w= .ok b w
 |[],b,w,h=>by simp[eqFields] at h;subst h;simp[Op.eqFields]
 |fd::fds,b,w,h=>by
  simp only[eqFields] at h
  split at h
  ·cases h
  ·rename_i hne
   split at h
   ·rename_i a c ha hc
    obtain⟨ca,r1,v1⟩:=mo hX (w:=w) ha hx
    obtain⟨cc,r2,v2⟩:=mo hX (w:=w) hc hy
    have hif:(fd.name≠ "_")=True:=by simp[hne]
    split at h
    ·rename_i heqt
     have r3:=heq _ _ _ _ heqt ca cc w v1 v2
     simp only[Op.eqFields,hif,if_true,Sem.run_bind,r1,r2,r3,Result.andThen_ok,Bool.not_true,Bool.false_eq_true,if_false]
     exact qf hx hy heq h
    ·rename_i r hr
     cases b with
     |true=>exact absurd h hr
     |false=>
      have r3:=heq _ _ _ _ h ca cc w v1 v2
      simp only[Op.eqFields,hif,if_true,Sem.run_bind,r1,r2,r3,Result.andThen_ok,Bool.not_false,if_true,Sem.run_pure]
   ·cases h
theorem yr:∀ (f:Nat) (t:TypeId) (x y:AV) (b:Bool),iU X f t x y=some b→∀ (d:Nat),f≤d→∀ (cx cy:Value) (w:World),VR ι x cx→VR ι y cy→(Op.equalIn d t cx cy).run P w= .ok b w
 |0,t,x,y,b,h=>by simp[iU] at h
 |f+1,t,x,y,b,h=>by
  intro d hd cx cy w hx hy
  obtain⟨d,rfl⟩:∃e,d=e+1:=⟨d- 1,by omega⟩
  simp only[iU] at h
  split at h
  ·rename_i a c hu;simp only[VR] at hx hy;subst hx;subst hy;cases h;simp[Op.equalIn,aL hX hu]
  ·rename_i j a k c hu
   split at h
   ·rename_i hjk;simp only[VR] at hx hy;subst hx;subst hy;subst hjk;cases h
    simp only[Op.equalIn,Sem.run_bind,aL hX hu,Result.andThen_ok,if_true,Sem.run_pure];rfl
   ·cases h
  ·rename_i a c hu
   simp only[VR] at hx hy;obtain⟨ba,rfl,rfl⟩:=hx;obtain⟨bc,rfl,rfl⟩:=hy;cases h
   simp only[Op.equalIn,Sem.run_bind,aL hX hu,Result.andThen_ok,Sem.run_pure,Str.CP]
   rw[beq_toListBytes,toList_data,toList_data]
   congr 1
   rw[Bool.eq_iff_iff];simp
  ·rename_i e c hu
   simp only[VR] at hx;subst hx
   cases c with
   |none=>simp only[VR] at hy;subst hy;cases h;simp[Op.equalIn,aL hX hu]
   |some p=>simp only[VR] at hy;obtain⟨_,_,_,rfl⟩:=hy;cases h;simp[Op.equalIn,aL hX hu]
  ·rename_i e p hu
   simp only[VR] at hx hy;obtain⟨_,_,_,rfl⟩:=hx;subst hy;cases h;simp[Op.equalIn,aL hX hu]
  ·rename_i e n1 c1 x1 a n2 c2 x2 hu
   simp only[VR] at hx;obtain⟨_,_,_,rfl⟩:=hx
   cases a with
   |none=>simp only[VR] at hy;obtain⟨_,_,_,rfl⟩:=hy;cases h;simp[Op.equalIn,aL hX hu]
   |some p=>simp only[VR] at hy;obtain⟨_,_,_,_,_,rfl,_⟩:=hy;cases h;simp[Op.equalIn,aL hX hu]
  ·rename_i e p n1 c1 x1 n2 c2 x2 hu
   simp only[VR] at hx hy;obtain⟨_,_,_,_,_,rfl,_⟩:=hx;obtain⟨_,_,_,rfl⟩:=hy;cases h;simp[Op.equalIn,aL hX hu]
  ·rename_i k e c hu
   simp only[VR] at hx;subst hx
   cases c with
   |none=>simp only[VR] at hy;subst hy;cases h;simp[Op.equalIn,aL hX hu]
   |some p=>simp only[VR] at hy;obtain⟨_,_,_,rfl⟩:=hy;cases h;simp[Op.equalIn,aL hX hu]
  ·rename_i k e p hu
   simp only[VR] at hx hy;obtain⟨_,_,_,rfl⟩:=hx;subst hy;cases h;simp[Op.equalIn,aL hX hu]
  ·rename_i ms hu
   simp only[VR] at hx hy;subst hx;subst hy
   split at h
   ·cases h;simp[Op.equalIn,aL hX hu]
   ·cases h
  ·rename_i ms u v hu
   simp only[VR] at hx hy;subst hx;obtain⟨_,rfl,_⟩:=hy;cases h;simp[Op.equalIn,aL hX hu]
  ·rename_i ms u v hu
   simp only[VR] at hx hy;subst hy;obtain⟨_,rfl,_⟩:=hx;cases h;simp[Op.equalIn,aL hX hu]
  ·rename_i fs xs ys hu
   split at h
   ·rename_i hok
    simp only[VR] at hx hy;obtain⟨cxs,rfl,hx⟩:=hx;obtain⟨cys,rfl,hy⟩:=hy
    have hfs:P.fieldsOf t=fs:=by simp[Program.fieldsOf,fy hX hu]
    rw[run_equalIn_struct w d t cxs cys (by rw[hfs];exact fy hX hu) (hX.eqs t hok).1,hfs]
    exact qf hX hx hy (fun t' x' y' b' he cx' cy' w' h1 h2=>yr f t' x' y' b' he d (by omega) cx' cy' w' h1 h2) h
   ·cases h
  ·rename_i hu
   simp only[VR] at hx hy;subst hx;subst hy;cases h;simp[Op.equalIn,aL hX hu]
  ·rename_i hu
   simp only[VR] at hx hy;subst hx;obtain⟨_,_,rfl,_⟩:=hy;cases h;simp[Op.equalIn,aL hX hu]
  ·rename_i hu
   simp only[VR] at hx hy;subst hy;obtain⟨_,_,rfl,_⟩:=hx;cases h;simp[Op.equalIn,aL hX hu]
  ·cases h
omit hX in
theorem Cz {op:BinOp}{k:FloatKind}{x y:Nat}{v:AV}{t:TypeId}{w:World}(h:BS op k x y=some v):∃cv,(binOp op t (.float k x) (.float k y)).run P w= .ok cv w∧VR ι v cv:=by
 have ar:∀ (o:Option Nat),vB k o=some v→∃r,o=some r∧v= .flt k r:=fun o ho=>by
  cases o with
  |none=>cases ho
  |some r=>cases ho;exact⟨r,rfl,rfl⟩
 unfold BS at h
 cases op<;>simp only[Option.some.injEq,reduceCtorEq] at h
 case add=>obtain⟨r,h1,rfl⟩:=ar _ h;exact⟨.float k r,by simp[binOp,Op.floatArith,h1],by simp[VR]⟩
 case sub=>obtain⟨r,h1,rfl⟩:=ar _ h;exact⟨.float k r,by simp[binOp,Op.floatArith,h1],by simp[VR]⟩
 case mul=>obtain⟨r,h1,rfl⟩:=ar _ h;exact⟨.float k r,by simp[binOp,Op.floatArith,h1],by simp[VR]⟩
 case quo=>obtain⟨r,h1,rfl⟩:=ar _ h;exact⟨.float k r,by simp[binOp,Op.floatArith,h1],by simp[VR]⟩
 all_goals(subst h;exact⟨.bool _,by simp[binOp,Op.floatCmp];rfl,by simp[VR]⟩)
theorem wm {op:BinOp}{t:TypeId}{ox oy:Operand}{x y v:AV}{cx cy:Value}{w:World}(h:fL X op t x y=some v)(hx:VR ι x cx)(hy:VR ι y cy):
  ∃cv,(do eqGuard op t ox oy cx cy;binOp op t cx cy:Sem Value).run P w= .ok cv w∧VR ι v cv:=by
 unfold fL at h
 have plain:∀ (cx cy:Value),(∀a,cx≠ .agg a)→cx≠ .nilIface→(eqGuard op t ox oy cx cy).run P w= .ok () w:=fun cx cy h1 h2=>by
  unfold eqGuard
  cases op<;>simp
  all_goals
   split
   ·exact absurd rfl h2
   ·exact absurd rfl (h1 _)
   ·rfl
 split at h
 ·rename_i k a j c
  simp only[VR] at hx hy;subst hx;subst hy
  have hg:=plain (.float k a) (.float j c) (by simp) (by simp)
  split at h
  ·rename_i hk;subst hk
   obtain⟨cv,h1,h2⟩:=Cz (P:=P) (w:=w) (ι:=ι) (t:=t) h
   exact⟨cv,by simp only[Sem.run_bind,hg,Result.andThen_ok,h1],h2⟩
  ·cases h
 ·rename_i k a j c
  simp only[VR] at hx hy;subst hx;subst hy
  have hg:=plain (.int k a) (.int j c) (by simp) (by simp)
  split at h
  ·obtain⟨cv,h1,h2⟩:=re (P:=P) (w:=w) (ι:=ι) (t:=t) (j:=j) (.inl rfl) h
   exact⟨cv,by simp only[Sem.run_bind,hg,Result.andThen_ok,h1],h2⟩
  ·obtain⟨cv,h1,h2⟩:=re (P:=P) (w:=w) (ι:=ι) (t:=t) (j:=j) (.inr rfl) h
   exact⟨cv,by simp only[Sem.run_bind,hg,Result.andThen_ok,h1],h2⟩
  ·rename_i hs1 hs2
   split at h
   ·rename_i hkj;subst hkj
    obtain⟨cv,h1,h2⟩:=Co (P:=P) (w:=w) (ι:=ι) (t:=t) ⟨hs1,hs2⟩ h
    exact⟨cv,by simp only[Sem.run_bind,hg,Result.andThen_ok,h1],h2⟩
   ·cases h
 ·rename_i a c
  simp only[VR] at hx hy;obtain⟨ba,rfl,rfl⟩:=hx;obtain⟨bc,rfl,rfl⟩:=hy
  have hg:=plain (.string ba) (.string bc) (by simp) (by simp)
  obtain⟨cv,h1,h2⟩:=C0 (P:=P) (w:=w) (ι:=ι) (t:=t) h
  exact⟨cv,by simp only[Sem.run_bind,hg,Result.andThen_ok,h1],h2⟩
 ·rename_i hnf hni hns
  have key:∀b,iU X 20 t x y=some b→(eqGuard op t ox oy cx cy).run P w= .ok () w∧(Op.equal t cx cy).run P w= .ok b w∧
    (binOp .eql t cx cy).run P w= .ok (.bool b) w∧(binOp .neq t cx cy).run P w= .ok (.bool (!b)) w:=fun b hb=>by
   have he:(Op.equal t cx cy).run P w= .ok b w:=yr hX 20 t x y b hb Op.maxDepth (by decide) cx cy w hx hy
   have hform:(∃a c,x= .bool a∧y= .bool c)∨(∃a c,x= .ptr a∧y= .ptr c)∨(∃a n c e a' n' c' e',x= .slc a n c e∧y= .slc a' n' c' e')∨(∃a c,x= .map a∧y= .map c)∨
     (x= .nilIface∧y= .nilIface∧∃ms,X.und t=some (.interface ms)∧ms.toList=[])∨(∃u v,x= .nilIface∧y= .iface u v)∨(∃u v,x= .iface u v∧y= .nilIface)∨(∃a c,x= .agg a∧y= .agg c∧du t X.eqs=true)∨((x= .nilFunc∨∃f a b,x= .func f a b)∧(y= .nilFunc∨∃f a b,y= .func f a b)):=by
    have hb':=hb
    simp only[iU] at hb'
    split at hb'
    case h_1=>exact .inl ⟨_,_,rfl,rfl⟩
    case h_2=>exact absurd rfl (hni _ _ _ _ rfl)
    case h_3=>exact absurd rfl (hns _ _ rfl)
    case h_4=>exact .inr (.inl ⟨_,_,rfl,rfl⟩)
    case h_5=>exact .inr (.inl ⟨_,_,rfl,rfl⟩)
    case h_6=>exact .inr (.inr (.inl ⟨_,_,_,_,_,_,_,_,rfl,rfl⟩))
    case h_7=>exact .inr (.inr (.inl ⟨_,_,_,_,_,_,_,_,rfl,rfl⟩))
    case h_8=>exact .inr (.inr (.inr (.inl ⟨_,_,rfl,rfl⟩)))
    case h_9=>exact .inr (.inr (.inr (.inl ⟨_,_,rfl,rfl⟩)))
    case h_10=>
     rename_i ms hu
     split at hb'
     ·rename_i hms;exact .inr (.inr (.inr (.inr (.inl ⟨rfl,rfl,_,hu,hms⟩))))
     ·cases hb'
    case h_11=>exact .inr (.inr (.inr (.inr (.inr (.inl ⟨_,_,rfl,rfl⟩)))))
    case h_12=>exact .inr (.inr (.inr (.inr (.inr (.inr (.inl ⟨_,_,rfl,rfl⟩))))))
    case h_13=>
     split at hb'
     ·rename_i hok;exact .inr (.inr (.inr (.inr (.inr (.inr (.inr (.inl ⟨_,_,rfl,rfl,hok⟩)))))))
     ·cases hb'
    case h_14=>exact .inr (.inr (.inr (.inr (.inr (.inr (.inr (.inr ⟨.inl rfl, .inl rfl⟩)))))))
    case h_15=>exact .inr (.inr (.inr (.inr (.inr (.inr (.inr (.inr ⟨.inl rfl, .inr ⟨_,_,_,rfl⟩⟩)))))))
    case h_16=>exact .inr (.inr (.inr (.inr (.inr (.inr (.inr (.inr ⟨.inr ⟨_,_,_,rfl⟩, .inl rfl⟩)))))))
    case h_17=>cases hb'
   rcases hform with⟨a,c,rfl,rfl⟩|⟨a,c,rfl,rfl⟩|⟨a,n,c,e,a',n',c',e',rfl,rfl⟩|⟨a,c,rfl,rfl⟩|⟨rfl,rfl,ms,hu,hms⟩|⟨u,v,rfl,rfl⟩|⟨u,v,rfl,rfl⟩|⟨a,c,rfl,rfl,hok⟩|⟨hfx,hfy⟩
   ·simp only[VR] at hx hy;subst hx;subst hy
    exact⟨plain _ _ (by simp) (by simp),he,by simp[binOp,he],by simp[binOp,he]⟩
   ·have f1:∃p,cx= .pointer p:=by
     cases a with
     |none=>simp only[VR] at hx;exact⟨_,hx⟩
     |some p=>simp only[VR] at hx;obtain⟨_,_,_,h⟩:=hx;exact⟨_,h⟩
    have f2:∃p,cy= .pointer p:=by
     cases c with
     |none=>simp only[VR] at hy;exact⟨_,hy⟩
     |some p=>simp only[VR] at hy;obtain⟨_,_,_,h⟩:=hy;exact⟨_,h⟩
    obtain⟨p,rfl⟩:=f1;obtain⟨q,rfl⟩:=f2
    exact⟨plain _ _ (by simp) (by simp),he,by simp[binOp,he],by simp[binOp,he]⟩
   ·have f1:∃p i j,cx= .slice p i j:=by
     cases a with
     |none=>simp only[VR] at hx;obtain⟨_,_,_,h⟩:=hx;exact⟨_,_,_,h⟩
     |some p=>simp only[VR] at hx;obtain⟨_,_,_,_,_,h,_⟩:=hx;exact⟨_,_,_,h⟩
    have f2:∃p i j,cy= .slice p i j:=by
     cases a' with
     |none=>simp only[VR] at hy;obtain⟨_,_,_,h⟩:=hy;exact⟨_,_,_,h⟩
     |some p=>simp only[VR] at hy;obtain⟨_,_,_,_,_,h,_⟩:=hy;exact⟨_,_,_,h⟩
    obtain⟨p,i,j,rfl⟩:=f1;obtain⟨q,k,l,rfl⟩:=f2
    exact⟨plain _ _ (by simp) (by simp),he,by simp[binOp,he],by simp[binOp,he]⟩
   ·have f1:∃p,cx= .map p:=by
     cases a with
     |none=>simp only[VR] at hx;exact⟨_,hx⟩
     |some p=>simp only[VR] at hx;obtain⟨_,_,_,h⟩:=hx;exact⟨_,h⟩
    have f2:∃p,cy= .map p:=by
     cases c with
     |none=>simp only[VR] at hy;exact⟨_,hy⟩
     |some p=>simp only[VR] at hy;obtain⟨_,_,_,h⟩:=hy;exact⟨_,h⟩
    obtain⟨p,rfl⟩:=f1;obtain⟨q,rfl⟩:=f2
    exact⟨plain _ _ (by simp) (by simp),he,by simp[binOp,he],by simp[binOp,he]⟩
   ·simp only[VR] at hx hy;subst hx;subst hy
    have hms':ms= #[]:=by
     cases ms;simpa using hms
    subst hms'
    have hg:(eqGuard op t ox oy .nilIface .nilIface).run P w= .ok () w:=by
     have hin:∀d,(Op.eqGuardIn (d+1) t .nilIface .nilIface).run P w= .ok false w:=fun d=>by
      simp[Op.eqGuardIn,aL hX hu]
     have hin:(Op.eqGuardIn Op.maxDepth t .nilIface .nilIface).run P w= .ok false w:=hin 9999
     unfold eqGuard
     cases op<;>simp[hin]
    exact⟨hg,he,by simp[binOp,he],by simp[binOp,he]⟩
   ·simp only[VR] at hx hy;subst hx;obtain⟨_,rfl,_⟩:=hy
    have hg:(eqGuard op t ox oy .nilIface (.iface u ‹_›)).run P w= .ok () w:=by
     unfold eqGuard
     cases op<;>simp
    exact⟨hg,he,by simp[binOp,he],by simp[binOp,he]⟩
   ·simp only[VR] at hx hy;subst hy;obtain⟨_,rfl,_⟩:=hx
    exact⟨plain _ _ (by simp) (by simp),he,by simp[binOp,he],by simp[binOp,he]⟩
   ·simp only[VR] at hx hy;obtain⟨cxs,rfl,_⟩:=hx;obtain⟨cys,rfl,_⟩:=hy
    exact⟨run_eqGuard_agg w op t ox oy cxs cys (hX.eqs t hok).2,he,by simp[binOp,he],by simp[binOp,he]⟩
   ·have f1:cx= .nilFunc∨∃f a b,cx= .func f a b:=by
     rcases hfx with rfl|⟨f,a,b,rfl⟩
     ·simp only[VR] at hx;exact .inl hx
     ·simp only[VR] at hx;obtain⟨p,q,h,_⟩:=hx;exact .inr ⟨_,_,_,h⟩
    have f2:cy= .nilFunc∨∃f a b,cy= .func f a b:=by
     rcases hfy with rfl|⟨f,a,b,rfl⟩
     ·simp only[VR] at hy;exact .inl hy
     ·simp only[VR] at hy;obtain⟨p,q,h,_⟩:=hy;exact .inr ⟨_,_,_,h⟩
    rcases f1 with rfl|⟨f,p,q,rfl⟩<;>rcases f2 with rfl|⟨g,u,v,rfl⟩<;>
     exact⟨plain _ _ (by simp) (by simp),he,by simp[binOp,he],by simp[binOp,he]⟩
  split at h
  ·split at h
   ·rename_i b hb;cases h
    obtain⟨h1,_,h3,_⟩:=key b hb
    exact⟨.bool b,by simp only[Sem.run_bind,h1,Result.andThen_ok,h3],by simp[VR]⟩
   ·cases h
  ·split at h
   ·rename_i b hb;cases h
    obtain⟨h1,_,_,h4⟩:=key b hb
    exact⟨.bool (!b),by simp only[Sem.run_bind,h1,Result.andThen_ok,h4],by simp[VR]⟩
   ·cases h
  ·cases h
theorem BD {op:BinOp}{t:TypeId}{ox oy:Operand}{v:AV}{w:World}(hc:(qc ox||qc oy)=true)(h:zG X op t=some v):
  ∃cv,(do eqGuard op t ox oy .nilIface .nilIface;binOp op t .nilIface .nilIface:Sem Value).run P w= .ok cv w∧VR ι v cv:=by
 unfold zG at h
 split at h
 ·rename_i ms hu
  have he:(Op.equal t .nilIface .nilIface).run P w= .ok true w:=by
   have:∀d,(Op.equalIn (d+1) t .nilIface .nilIface).run P w= .ok true w:=fun d=>by simp[Op.equalIn,aL hX hu]
   exact this 9999
  have hg:(eqGuard op t ox oy .nilIface .nilIface).run P w= .ok () w:=by
   cases ox with
   |const _=>unfold eqGuard;cases op<;>simp
   | _=>
    cases oy with
    |const _=>unfold eqGuard;cases op<;>simp
    | _=>simp[qc] at hc
  split at h
  ·cases h
   exact⟨.bool true,by simp only[Sem.run_bind,hg,Result.andThen_ok];simp[binOp,he],by simp[VR]⟩
  ·cases h
   exact⟨.bool false,by simp only[Sem.run_bind,hg,Result.andThen_ok];simp[binOp,he],by simp[VR]⟩
  ·cases h
 ·cases h
theorem AI {op:BinOp}{t:TypeId}{ox oy:Operand}{x y v:AV}{cx cy:Value}{w:World}(h:aU X op t (qc ox||qc oy) x y=some v)(hx:VR ι x cx)(hy:VR ι y cy):
  ∃cv,(do eqGuard op t ox oy cx cy;binOp op t cx cy:Sem Value).run P w= .ok cv w∧VR ι v cv:=by
 have plain:∀ (k j:IntKind) (a b:Int),(eqGuard op t ox oy (.int k a) (.int j b)).run P w= .ok () w:=fun k j a b=>by
  unfold eqGuard
  cases op<;>simp
 have nes:∀ {k j:IntKind} {n m x y:Int},yo op k j n m=some v→k=j→n=m→x≠y→∃cv,(do eqGuard op t ox oy (.int k x) (.int k y);binOp op t (.int k x) (.int k y):Sem Value).run P w= .ok cv w∧VR ι v cv:=fun{k j n m x y} h hk hn hne=>by
  unfold yo at h
  split at h
  ·split at h
   ·cases h
    refine⟨.bool false,?_,by simp[VR]⟩
    simp only[Sem.run_bind,plain,Result.andThen_ok]
    simp[binOp,Op.intCmp,hne]
   ·cases h
    refine⟨.bool true,?_,by simp[VR]⟩
    simp only[Sem.run_bind,plain,Result.andThen_ok]
    simp[binOp,Op.intCmp,hne]
   ·cases h
  ·cases h
 unfold aU at h
 split at h
 ·split at h
  ·rename_i hc
   simp only[VR] at hx hy;subst hx;subst hy
   exact BD hX hc h
  ·exact wm hX h hx hy
 ·rename_i k b m r j d
  simp only[VR] at hx hy
  obtain⟨n,rfl,hn,hr⟩:=hx
  subst hy
  unfold Hs at h
  split at h
  ·split at h
   ·rename_i hd
    cases h
    simp only[Bool.and_eq_true,decide_eq_true_eq] at hd
    obtain⟨rfl,h1,h2⟩:=hd
    have h1:=Nat.blt_eq.mp h1
    have h2:=Nat.beq_eq.mp h2
    refine⟨.int k (n % d:Nat),?_,by
     simp only[VR]
     rw[←hr]
     congr 2
     exact(Nat.mod_mod_of_dvd n (Nat.dvd_of_mod_eq_zero h2)).symm⟩
    simp only[Sem.run_bind,plain,Result.andThen_ok]
    have hd0:(Int.ofNat d)≠0:=by simp;omega
    simp only[binOp,ne_eq,not_true_eq_false,if_false,Op.intDiv,hd0,Sem.run_pure]
    rw[show(Int.ofNat d)=(d:Int) from rfl,Int.ofNat_tmod]
   ·cases h
  ·cases h
 ·rename_i k n j m
  simp only[VR] at hx hy
  obtain⟨x,rfl,hne⟩:=hx
  subst hy
  have hk:k=j∧n=m:=by
   unfold yo at h
   split at h
   ·rename_i hd;simpa using hd
   ·cases h
  obtain⟨rfl,rfl⟩:=hk
  exact nes h rfl rfl hne
 ·rename_i j m k n
  simp only[VR] at hx hy
  obtain⟨y,rfl,hne⟩:=hy
  subst hx
  have hk:k=j∧n=m:=by
   unfold yo at h
   split at h
   ·rename_i hd;simpa using hd
   ·cases h
  obtain⟨rfl,rfl⟩:=hk
  exact nes h rfl rfl (Ne.symm hne)
 ·exact wm hX h hx hy
omit hX in
theorem FV {op:UnOp}{x v:AV}{cx:Value}{w:World}(h:EW op x=some v)(hx:VR ι x cx):∃cv,(Op.unary op cx).run P w= .ok cv w∧VR ι v cv:=by
 unfold EW at h
 split at h
 ·rename_i c;simp only[VR] at hx;subst hx;cases h;exact⟨.bool (!c),by simp[Op.unary],by simp[VR]⟩
 ·rename_i k n;simp only[VR] at hx;subst hx;cases h;exact⟨.int k (k.wrap (0- n)),by simp only[Op.unary,Op.intArith,Sem.run_pure],by simp only[VR,ue]⟩
 ·rename_i k n;simp only[VR] at hx;subst hx
  split at h
  ·rename_i r hr;cases h;exact⟨.int k r,by simp[Op.unary,ug hr],by simp[VR]⟩
  ·cases h
 ·cases h
end
end Go.Am
end
