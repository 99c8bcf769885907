/-
  A part of the texts.
-/
import Derived.Laws.Cells
import Derived.Laws.Entries
import Derived.Laws.World
import Derived.Test.YtofohkdkpbigiaaQab
section
namespace Go.Am
variable {P:Program}
def ER (ι:Inj)(p:AV×AV)(e:MapEntry):Prop:=VR ι p.1 e.key∧VR ι p.2 e.val
inductive ERs (ι:Inj):List (AV×AV)→List MapEntry→Prop
 |nil:ERs ι [] []
 |cons {p:AV×AV} {e:MapEntry} {es:List (AV×AV)} {l:List MapEntry}:ER ι p e→ERs ι es l→ERs ι (p::es) (e::l)
theorem ERs.mono {ι κ:Inj}(h:ι.le κ){es:List (AV×AV)}{l:List MapEntry}(hr:ERs ι es l):ERs κ es l:=by
 induction hr with
 |nil=>exact .nil
 |cons h1 _ ih=>exact .cons ⟨h1.1.mono h,h1.2.mono h⟩ ih
def KD (es:List (AV×AV)):Prop:=es.Pairwise fun p q=>fx p.1 q.1=some false
def LR:LSt→Loop→Prop
 | .ready,r=>r.state= .ready∧r.pending=none
 | .busy,r=>r.state= .busy
 | .done c,r=>r.state= .done∧r.pending=some c
def BR (P:Program)(ι:Inj)(w:World)(cb:Nat)(d:WD):AB→Prop
 | .cells c n=>∃cs e fz,w.heap[cb]? =some (.cells cs e fz)∧(∀j,d.2 j→j<cs.size∧¬(fz.1≤j∧j<fz.2))∧(∀i v,c.get i=some v→i<n∧d.2 (d.1+i)∧∃cv,cs[d.1+i]? =some cv∧VR ι v cv)∧(n<iM→¬(fz.1≤cs.size∧cs.size<fz.2))
 | .map es=>d=(0,up 0)∧KD es∧∃l clock,w.heap[cb]? =some (.map l clock)∧(∃l',l'.Perm l.toList∧ERs ι es l')∧(l.toList.map (·.born)).Nodup∧∀e∈l.toList,e.born<clock
 | .loop t ps QQ bd st=>d=(0,up 0)∧∃r N,w.heap[cb]? =some (.loop r)∧(∃f,P.funcs[r.fn]? =some f)∧r.params.toList=ps∧r.assign=QQ∧r.body=bd∧LR st r∧N≤r.tmps.size∧N≤1000000000∧dj N QQ=true∧dj N bd=true∧quiet QQ=true∧quiet bd=true∧(∀p∈ps,p<N)∧∀k v,t.get k=some v→∃cv,r.tmps[k]? =some cv∧VR ι v cv
 | .dfr=>d=(0,up 0)∧w.heap[cb]? =some (.deferred (some []))
theorem BR.some {ι:Inj}{w:World}{cb:Nat}{d:WD}{ab:AB}(h:BR P ι w cb d ab):∃o,w.heap[cb]? =some o:=by
 cases ab with
 |cells c n=>obtain⟨cs,e,fz,h1,_⟩:=h;exact⟨_,h1⟩
 |map es=>obtain⟨_,_,l,k,h1,_⟩:=h;exact⟨_,h1⟩
 |loop t ps QQ bd st=>obtain⟨_,r,N,h1,_⟩:=h;exact⟨_,h1⟩
 |dfr=>exact⟨_,h.2⟩
theorem BR.lt {ι:Inj}{w:World}{cb:Nat}{d:WD}{ab:AB}(h:BR P ι w cb d ab):cb<w.heap.size:=by
 obtain⟨o,ho⟩:=h.some
 rcases Nat.lt_or_ge cb w.heap.size with h|h
 ·exact h
 ·rw[Array.getElem?_eq_none h] at ho;cases ho
theorem BR.frame {ι κ:Inj}{w w':World}{cb:Nat}{d:WD}{ab:AB}(h:BR P ι w cb d ab)(hk:w'.heap[cb]? =w.heap[cb]?)(hl:ι.le κ):BR P κ w' cb d ab:=by
 cases ab with
 |cells c n=>
  obtain⟨cs,e,fz,h1,h0,h2,h3⟩:=h
  refine⟨cs,e,fz,hk.trans h1,h0,fun i v hv=>?_,h3⟩
  obtain⟨a,b,cv,c,d⟩:=h2 i v hv
  exact⟨a,b,cv,c,d.mono hl⟩
 |map es=>
  obtain⟨h0,hd,l,k,h1,⟨l',hp,hr⟩,h3⟩:=h
  exact⟨h0,hd,l,k,hk.trans h1,⟨l',hp,hr.mono hl⟩,h3⟩
 |loop t ps QQ bd st=>
  obtain⟨h0,r,N,h1,hx,h2,h3,h4,h5,h6,h7,h8,h9,h10,h11,h13,h12⟩:=h
  exact⟨h0,r,N,hk.trans h1,hx,h2,h3,h4,h5,h6,h7,h8,h9,h10,h11,h13,fun k v hv=>let⟨cv,a,b⟩:=h12 k v hv;⟨cv,a,b.mono hl⟩⟩
 |dfr=>exact⟨h.1,hk.trans h.2⟩
def Own (ι:Inj)(s:St)(cb:Nat):Prop:=∃b d ab,ι b=some (cb,d)∧s.h.get b=some ab
def Inj.nil:Inj:=fun _=>none
theorem Inj.nil_le (ι:Inj):Inj.nil.le ι:=fun _ _ h=>by cases h
def GL (ι:Inj)(s:St)(w:World):Prop:=∀g c,s.gl.get g=some c→¬Own ι s g∧∃cs e fz,w.heap[g]? =some (.cells cs e fz)∧∀i v,c.get i=some v→∃cv,cs[i]? =some cv∧VR Inj.nil v cv
theorem GL.lt {ι:Inj}{s:St}{w:World}(h:GL ι s w){g:Nat}{c:Tr AV}(hg:s.gl.get g=some c):g<w.heap.size:=by
 obtain⟨_,cs,e,fz,h1,_⟩:=h g c hg
 exact(Array.getElem?_eq_some_iff.mp h1).1
structure HR (P:Program)(ι:Inj)(s:St)(w:World):Prop where
 gl:GL ι s w
 base:∀b cb d,ι b=some (cb,d)→dx b s.sh=false→d.1=0
 dom:∀b x,ι b=some x→b<s.nx
 br:∀b cb d ab,ι b=some (cb,d)→s.h.get b=some ab→BR P ι w cb d ab
 inj:∀b b' cb d d' ab ab',ι b=some (cb,d)→ι b'=some (cb,d')→s.h.get b=some ab→s.h.get b'=some ab'→b=b'
def Kin (w v:World):Prop:=v.os=w.os∧v.output=w.output
theorem Kin.refl (w:World):Kin w w:=⟨rfl,rfl⟩
theorem Kin.trans {w v u:World}(h:Kin w v)(h':Kin v u):Kin w u:=⟨h'.1.trans h.1,h'.2.trans h.2⟩
def Wr (ι:Inj)(s:St)(cb j:Nat):Prop:=∃b d ab,ι b=some (cb,d)∧s.h.get b=some ab∧d.2 j
def jd (w v:World)(cb:Nat)(W:Nat→Prop):Prop:=∀cs e fz,w.heap[cb]? =some (.cells cs e fz)→∃cs',v.heap[cb]? =some (.cells cs' e fz)∧cs'.size=cs.size∧∀j,¬W j→cs'[j]? =cs[j]?
theorem jd.same {w v:World}{cb:Nat}{W:Nat→Prop}(h:v.heap[cb]? =w.heap[cb]?):jd w v cb W:=fun cs e fz hc=>⟨cs,h.trans hc,rfl,fun _ _=>rfl⟩
theorem jd.trans {w v u:World}{cb:Nat}{W V:Nat→Prop}(h:jd w v cb W)(h':jd v u cb V)(hW:∀j,V j→W j):jd w u cb W:=fun cs e fz hc=>by
 obtain⟨cs1,g1,g2,g3⟩:=h cs e fz hc
 obtain⟨cs2,k1,k2,k3⟩:=h' cs1 e fz g1
 exact⟨cs2,k1,k2.trans g2,fun j hj=>(k3 j fun hv=>hj (hW j hv)).trans (g3 j hj)⟩
theorem jd.mono {w v:World}{cb:Nat}{W V:Nat→Prop}(h:jd w v cb W)(hW:∀j,W j→V j):jd w v cb V:=fun cs e fz hc=>by
 obtain⟨cs1,g1,g2,g3⟩:=h cs e fz hc
 exact⟨cs1,g1,g2,fun j hj=>g3 j fun hw=>hj (hW j hw)⟩
theorem jd.push {w v:World}{cb:Nat}{W:Nat→Prop}{o:Obj}(h:v.heap=w.heap.push o):jd w v cb W:=fun cs e fz hc=>by
 refine⟨cs,?_,rfl,fun _ _=>rfl⟩
 rw[h,Array.getElem?_push]
 split
 ·rename_i e;subst e;simp at hc
 ·exact hc
theorem jd.other {w v:World}{cb:Nat}{W:Nat→Prop}{o:Obj}(h:w.heap[cb]? =some o)(ho:∀c e f,o≠ .cells c e f):jd w v cb W:=fun cs e fz hc=>by
 rw[h] at hc;cases hc;exact absurd rfl (ho _ _ _)
theorem jd.blk {w v:World}{cb:Nat}{W:Nat→Prop}(h:∀o,w.heap[cb]? =some o→v.heap[cb]? =w.heap[cb]?):jd w v cb W:=fun cs e fz hc=>⟨cs,(h _ hc).trans hc,rfl,fun _ _=>rfl⟩
theorem DV {w:World}{cb:Nat}{o:Obj}(h:w.heap[cb]? =some o):cb<w.heap.size:=by
 rcases Nat.lt_or_ge cb w.heap.size with h'|h'
 ·exact h'
 ·rw[Array.getElem?_eq_none h'] at h;cases h
structure Ext (ι:Inj)(s:St)(w:World)(κ:Inj)(t:St)(v:World):Prop where
 le:ι.le κ
 size:w.heap.size≤v.heap.size
 jn:∀cb,cb<w.heap.size→¬Own ι s cb→v.heap[cb]? =w.heap[cb]? ∧¬Own κ t cb
 old:∀b,b<s.nx→κ b=ι b
 nx:s.nx≤t.nx
 kin:Kin w v
 wr:∀cb,cb<w.heap.size→∀j,Wr κ t cb j→Wr ι s cb j
 kept:∀cb,jd w v cb (Wr ι s cb)
theorem GL.ext {ι κ:Inj}{s t:St}{w v:World}(h:GL ι s w)(he:Ext ι s w κ t v)(hg:t.gl=s.gl):GL κ t v:=fun g c hc=>by
 rw[hg] at hc
 obtain⟨h1,cs,e,fz,h2,h3⟩:=h g c hc
 obtain⟨k1,k2⟩:=he.jn g (h.lt hc) h1
 exact⟨k2,cs,e,fz,k1.trans h2,h3⟩
theorem Ext.refl (ι:Inj)(s:St)(w:World):Ext ι s w ι s w:=⟨ι.le_refl,Nat.le_refl _,fun _ _ h=>⟨rfl,h⟩,fun _ _=>rfl,Nat.le_refl _,Kin.refl _,fun _ _ _ h=>h,fun _=> .same rfl⟩
theorem Ext.trans {ι κ μ:Inj}{s t u:St}{w v x:World}(h:Ext ι s w κ t v)(h':Ext κ t v μ u x):Ext ι s w μ u x:=
 ⟨Inj.le_trans h.le h'.le,Nat.le_trans h.size h'.size,fun cb hcb ho=>
  let⟨a,b⟩:=h.jn cb hcb ho
  let⟨c,d⟩:=h'.jn cb (Nat.lt_of_lt_of_le hcb h.size) b
  ⟨c.trans a,d⟩,fun b hb=>(h'.old b (Nat.lt_of_lt_of_le hb h.nx)).trans (h.old b hb),Nat.le_trans h.nx h'.nx,h.kin.trans h'.kin,fun cb hcb j hj=>h.wr cb hcb j (h'.wr cb (Nat.lt_of_lt_of_le hcb h.size) j hj),fun cb cs e fz hc=>
   have hlt:cb<w.heap.size:=by
    rcases Nat.lt_or_ge cb w.heap.size with h|h
    ·exact h
    ·rw[Array.getElem?_eq_none h] at hc;cases hc
   ((h.kept cb).trans (h'.kept cb) (fun j hj=>h.wr cb hlt j hj)) cs e fz hc⟩
theorem Ext.heap {ι:Inj}{s:St}{w v:World}(h:v.heap=w.heap)(hk:Kin w v):Ext ι s w ι s v:=⟨ι.le_refl,by rw[h];exact Nat.le_refl _,fun _ _ ho=>⟨by rw[h],ho⟩,fun _ _=>rfl,Nat.le_refl _,hk,fun _ _ _ h=>h,fun cb=> .same (by rw[h])⟩
section
variable {ι:Inj}{s:St}{w w':World}
theorem HR.heap (h:HR P ι s w)(he:w'.heap=w.heap):HR P ι s w':=
 ⟨fun g c hc=>let⟨h1,cs,e,fz,h2,h3⟩:=h.gl g c hc;⟨h1,cs,e,fz,by rw[he];exact h2,h3⟩,h.base,h.dom,fun b cb d ab h1 h2=>(h.br b cb d ab h1 h2).frame (by rw[he]) ι.le_refl,h.inj⟩
def Inj.at (ι:Inj)(b:Nat)(x:Nat×WD):Inj:=fun c=>if c=b then some x else ι c
theorem Inj.db (ι:Inj)(b:Nat)(x:Nat×WD):ι.at b x b=some x:=by simp[Inj.at]
theorem Inj.yj {b:Nat}{x:Nat×WD}(h:ι b=none):ι.le (ι.at b x):=fun c y hc=>by
 unfold Inj.at
 by_cases e:c=b
 ·subst e;rw[h] at hc;cases hc
 ·rw[if_neg e];exact hc
theorem HR.fresh (h:HR P ι s w):ι s.nx=none:=by
 cases hx:ι s.nx with
 |none=>rfl
 |some x=>exact absurd (h.dom _ _ hx) (Nat.lt_irrefl _)
theorem hY {w:World}{o:Obj}{cb:Nat}(h:cb<w.heap.size):(w.heap.push o)[cb]? =w.heap[cb]? :=by
 rw[Array.getElem?_push];split
 ·omega
 ·rfl
theorem dT {w:World}{o:Obj}:(w.heap.push o)[w.heap.size]? =some o:=by simp
theorem HR.new (h:HR P ι s w){ab:AB}{o:Obj}(z:Nat)(hh:w'.heap=w.heap.push o)(hkin:Kin w w')(hb:∀κ,ι.le κ→BR P κ w' w.heap.size (0,up z) ab):
  HR P (ι.at s.nx (w.heap.size,0,up z)) (s.new ab).2 w'∧Ext ι s w (ι.at s.nx (w.heap.size,0,up z)) (s.new ab).2 w':=by
 have hle:ι.le (ι.at s.nx (w.heap.size,0,up z)):=Inj.yj h.fresh
 have old:∀b x,b≠s.nx→(ι.at s.nx (w.heap.size,0,up z)) b=some x→ι b=some x:=fun b x hb hx=>by
  unfold Inj.at at hx;rwa [if_neg hb] at hx
 have live:∀b ab',(s.new ab).2.h.get b=some ab'→(b=s.nx∧ab=ab')∨(b≠s.nx∧s.h.get b=some ab'):=fun b ab' hg=>Tr.df hg
 suffices hE:Ext ι s w (ι.at s.nx (w.heap.size,0,up z)) (s.new ab).2 w' by
  refine⟨⟨h.gl.ext hE rfl,fun b cb d hx hs=>?_,fun b x hx=>?_,fun b cb d ab' hx hg=>?_,fun b b' cb d d' ab1 ab2 h1 h2 g1 g2=>?_⟩,hE⟩
  ·by_cases e:b=s.nx
   ·subst e;rw[Inj.db] at hx;cases hx;rfl
   ·exact h.base b cb d (old b _ e hx) hs
  ·show b<s.nx+1
   by_cases e:b=s.nx
   ·omega
   ·have:=h.dom b x (old b x e hx);omega
  ·rcases live b ab' hg with⟨e,e'⟩|⟨e,hg⟩
   ·subst e;subst e'
    rw[Inj.db] at hx;cases hx
    exact hb _ hle
   ·have hx:=old b _ e hx
    have hbr:=h.br b cb d ab' hx hg
    exact hbr.frame (by rw[hh];exact hY hbr.lt) hle
  ·rcases live b ab1 g1 with⟨e,_⟩|⟨e,g1⟩<;>rcases live b' ab2 g2 with⟨e',_⟩|⟨e',g2⟩
   ·rw[e,e']
   ·subst e;rw[Inj.db] at h1;cases h1
    have:=(h.br b' _ _ ab2 (old _ _ e' h2) g2).lt;omega
   ·subst e';rw[Inj.db] at h2;cases h2
    have:=(h.br b _ _ ab1 (old _ _ e h1) g1).lt;omega
   ·exact h.inj b b' cb d d' ab1 ab2 (old _ _ e h1) (old _ _ e' h2) g1 g2
 refine⟨hle,by rw[hh];simp,fun cb hcb ho=>⟨by rw[hh];exact hY hcb,?_⟩,fun b hb=>by unfold Inj.at;rw[if_neg (by omega)],Nat.le_succ _,hkin,fun cb hcb j=>?_,fun cb=> .push hh⟩
 ·rintro⟨b,d,ab',hx,hg⟩
  rcases live b ab' hg with⟨e,_⟩|⟨e,hg⟩
  ·subst e;rw[Inj.db] at hx;cases hx;omega
  ·exact ho ⟨b,d,ab',old _ _ e hx,hg⟩
 ·rintro⟨b,d,ab',hx,hg,hj⟩
  rcases live b ab' hg with⟨e,_⟩|⟨e,hg⟩
  ·subst e;rw[Inj.db] at hx;cases hx;omega
  ·exact⟨b,d,ab',old _ _ e hx,hg,hj⟩
theorem HR.put (h:HR P ι s w){b cb:Nat}{d:WD}{ab ab':AB}(hb:ι b=some (cb,d))(hg:s.h.get b=some ab)(hkin:Kin w w')(hsz:w'.heap.size=w.heap.size)
  (hk:∀c,c≠cb→w'.heap[c]? =w.heap[c]?)(hn:BR P ι w' cb d ab')(hc:jd w w' cb d.2):
  HR P ι {s with h:=s.h.put b ab'} w'∧Ext ι s w ι {s with h:=s.h.put b ab'} w':=by
 suffices hE:Ext ι s w ι {s with h:=s.h.put b ab'} w' by
  refine⟨⟨h.gl.ext hE rfl,h.base,h.dom,fun c cc dd ab1 hx hg1=>?_,fun c c' cc dd dd' ab1 ab2 h1 h2 g1 g2=>?_⟩,hE⟩
  ·rcases Tr.df hg1 with⟨e,e'⟩|⟨e,hg1⟩
   ·subst e;subst e';rw[hb] at hx;cases hx;exact hn
   ·have:cc≠cb:=fun e'=>e (h.inj c b cc dd d ab1 ab hx (e'▸hb) hg1 hg)
    exact(h.br c cc dd ab1 hx hg1).frame (hk cc this) ι.le_refl
  ·have l1:∃ab,s.h.get c=some ab:=by
    rcases Tr.df g1 with⟨e,_⟩|⟨_,g⟩
    ·exact⟨ab,e▸hg⟩
    ·exact⟨_,g⟩
   have l2:∃ab,s.h.get c'=some ab:=by
    rcases Tr.df g2 with⟨e,_⟩|⟨_,g⟩
    ·exact⟨ab,e▸hg⟩
    ·exact⟨_,g⟩
   obtain⟨a1,l1⟩:=l1;obtain⟨a2,l2⟩:=l2
   exact h.inj c c' cc dd dd' a1 a2 h1 h2 l1 l2
 refine⟨ι.le_refl,by rw[hsz];exact Nat.le_refl _,fun c hc ho=>⟨hk c ?_,?_⟩,fun _ _=>rfl,Nat.le_refl _,hkin,fun c _ j=>?_,fun c=>?_⟩
 ·intro e;subst e;exact ho ⟨b,d,ab,hb,hg⟩
 ·rintro⟨c',dd,ab1,hx,hg1⟩
  rcases Tr.df hg1 with⟨e,_⟩|⟨_,hg1⟩
  ·subst e;exact ho ⟨c',dd,ab,hx,hg⟩
  ·exact ho ⟨c',dd,ab1,hx,hg1⟩
 ·rintro⟨c',dd,ab1,hx,hg1,hj⟩
  rcases Tr.df hg1 with⟨e,_⟩|⟨_,hg1⟩
  ·subst e;exact⟨c',dd,ab,hx,hg,hj⟩
  ·exact⟨c',dd,ab1,hx,hg1,hj⟩
 ·by_cases e:c=cb
  ·subst e;exact hc.mono fun j hj=>⟨b,d,ab,hb,hg,hj⟩
  ·exact .same (hk c e)
theorem lG {b a:Nat}{l:List Nat}(h:dx b (a::l)=false):b≠a∧dx b l=false:=by
 unfold dx at h
 split at h
 ·cases h
 ·rename_i hne;exact⟨fun e=>by rw[e] at hne;simp at hne,h⟩
theorem HR.shift (h:HR P ι s w)(b:Nat):HR P ι {s with sh:=b::s.sh} w:=
 ⟨h.gl,fun c cb d hx hs=>h.base c cb d hx (lG hs).2,h.dom,h.br,h.inj⟩
theorem HR.del (h:HR P ι s w)(b:Nat):HR P ι {s with h:=s.h.del b} w:=
 ⟨fun g c hc=>let⟨h1,h2⟩:=h.gl g c hc;⟨fun⟨b',d',ab',x1,x2⟩=>h1 ⟨b',d',ab',x1,(Tr.fu x2).2⟩,h2⟩,h.base,h.dom,fun c cc dd ab1 hx hg1=>h.br c cc dd ab1 hx (Tr.fu hg1).2,fun c c' cc dd dd' ab1 ab2 h1 h2 g1 g2=>h.inj c c' cc dd dd' ab1 ab2 h1 h2 (Tr.fu g1).2 (Tr.fu g2).2⟩
end
theorem St.dK {s:St}{b:Nat}{c:Tr AV}{n:Nat}(h:s.cells b=some (c,n)):s.h.get b=some (.cells c n):=by
 unfold St.cells at h
 split at h
 ·rename_i c' n' hg;cases h;exact hg
 ·cases h
theorem HR.cells {ι:Inj}{s:St}{w:World}(h:HR P ι s w){b cb:Nat}{d:WD}{c:Tr AV}{n:Nat}(hb:ι b=some (cb,d))(hg:s.cells b=some (c,n)):
  ∃cs e fz,w.heap[cb]? =some (.cells cs e fz)∧(∀j,d.2 j→j<cs.size∧¬(fz.1≤j∧j<fz.2))∧∀i v,c.get i=some v→i<n∧d.2 (d.1+i)∧∃cv,cs[d.1+i]? =some cv∧VR ι v cv:=
 let⟨cs,e,fz,h1,h2,h3,_⟩:=h.br b cb d _ hb (St.dK hg);⟨cs,e,fz,h1,h2,h3⟩
theorem HR.plain {ι:Inj}{s:St}{w:World}(h:HR P ι s w){b cb:Nat}{d:WD}{c:Tr AV}{n:Nat}(hb:ι b=some (cb,d))(hg:s.h.get b=some (.cells c n))(hn:n<iM){cs:Array Value}{e:TypeId}{fz:Nat×Nat}(hw:w.heap[cb]? =some (.cells cs e fz)):¬(fz.1≤cs.size∧cs.size<fz.2):=by
 obtain⟨cs',e',fz',h1,_,_,h3⟩:=h.br b cb d _ hb hg
 rw[hw] at h1
 cases h1
 exact h3 hn
end Go.Am
end
section
namespace Go.Am
structure dU (P:Program)(X:Ctx):Prop where
 fns:∀f fn,X.fns.get f=some fn→P.funcs[f]? =some fn
 tys:∀t i,X.tys.get t=some i→P.info? t=some i
 eqs:∀t,dx t X.eqs=true→P.stoodInHeld t=false∧P.eqGuardType P.depth t=false
 mixed:P.follows .mixedOrders=true
section
variable {P:Program}
theorem M0 {eqs:List TypeId}{t:TypeId}{i:TypeInfo}(h:(Ctx.of P eqs).tys.get t=some i):P.info? t=some i:=by
 have:=Tr.dF (l:=P.types.toList) h
 have h1:P.types[t]? =some i:=by simpa using this
 have h2:t<P.types.size:=by
  rcases Nat.lt_or_ge t P.types.size with h'|h'
  ·exact h'
  ·rw[Array.getElem?_eq_none h'] at h1;cases h1
 rw[Tables.info?,if_pos h2];exact h1
theorem Gk {eqs:List TypeId}{f:FuncId}{fn:Func}(h:(Ctx.of P eqs).fns.get f=some fn):P.funcs[f]? =some fn:=by
 have:=Tr.dF (l:=P.funcs.toList) h
 simpa using this
theorem dU.of {eqs:List TypeId}(he:∀t,dx t eqs=true→P.stoodInHeld t=false∧P.eqGuardType P.depth t=false)(hm:P.follows .mixedOrders=true):dU P (Ctx.of P eqs):=
 ⟨fun _ _ h=>Gk h,fun _ _ h=>M0 h,he,hm⟩
variable {X:Ctx}(hX:dU P X)
include hX
theorem wL {t:TypeId}{i:TypeInfo}(h:X.tys.get t=some i):P.info? t=some i:=hX.tys t i h
theorem fG {t:TypeId}{d:TypeDesc}(h:X.und t=some d):P.underlying t=some d:=by
 unfold Ctx.und at h
 unfold Program.underlying
 split at h
 ·rename_i i hi
  have hi:=wL hX hi
  split at h
  ·rename_i u hd
   split at h
   ·rename_i j hj
    have hj:=wL hX hj
    cases h
    obtain⟨desc,a1,a2,a3,a4,a5,a6,a7,a8,a9⟩:=i
    simp only at hd
    subst hd
    simp[hi,hj]
   ·cases h
  ·rename_i hne
   cases h
   obtain⟨desc,a1,a2,a3,a4,a5,a6,a7,a8,a9⟩:=i
   rw[hi]
   split
   ·rename_i heq;simp only[Option.some.injEq,TypeInfo.mk.injEq] at heq
    exact absurd heq.1 (hne _ _)
   ·rename_i heq;cases heq;rfl
   ·rename_i heq;cases heq
 ·cases h
theorem aL {t:TypeId}{d:TypeDesc}(h:X.und t=some d)(w:World):(underlying t).run P w= .ok d w:=run_underlying (fG hX h) w
theorem run_typeInfo {t:TypeId}{i:TypeInfo}(h:X.tys.get t=some i)(w:World):(typeInfo t).run P w= .ok i w:=by
 simp[typeInfo,wL hX h]
omit hX in
theorem tE {t:TypeId}{n:Nat}(h:X.size t=some n):∃i,X.tys.get t=some i∧i.size=n:=by
 unfold Ctx.size at h
 split at h
 ·rename_i i hi;cases h;exact⟨i,hi,rfl⟩
 ·cases h
omit hX in
theorem lI {t:TypeId}{n:Nat}(h:X.elem t=some n):∃i,X.tys.get t=some i∧i.size=n∧i.bytes≤1048576∧1≤n∧∃z,i.zero=some z∧z.cells.size=n:=by
 unfold Ctx.elem at h
 split at h
 ·rename_i i hi
  split at h
  ·rename_i z hz
   split at h
   ·rename_i hc
    simp only[Bool.and_eq_true] at hc
    cases h;exact⟨i,hi,rfl,Nat.ble_eq.mp hc.1.1.1,Nat.ble_eq.mp hc.1.1.2,z,hz,Nat.beq_eq.mp hc.1.2⟩
   ·cases h
  ·cases h
 ·cases h
omit hX in
theorem nF {t:TypeId}{n:Nat}(h:X.elem t=some n):X.size t=some n:=by
 obtain⟨i,hi,rfl,_⟩:=lI h
 simp[Ctx.size,hi]
theorem cO {t:TypeId}{n:Nat}(h:X.size t=some n)(w:World):(sizeOf t).run P w= .ok n w:=by
 obtain⟨i,hi,rfl⟩:=tE h
 simp[sizeOf,run_typeInfo hX hi]
theorem nt {t:TypeId}{d:TypeDesc}(h:X.und t=some d)(w:World):(isAgg t).run P w= .ok (m9 d) w:=by
 simp only[isAgg,Sem.run_bind,aL hX h,Result.andThen_ok]
 cases d<;>rfl
theorem fA {t:TypeId}{z:AV}(h:X.zero t=some z)(w:World):∃cz,(zeroValue t).run P w= .ok cz w∧z=ofV cz:=by
 unfold Ctx.zero at h
 split at h
 ·rename_i i hi
  split at h
  ·rename_i cz hz;cases h
   exact⟨cz,by simp[zeroValue,run_typeInfo hX hi,hz],rfl⟩
  ·cases h
 ·cases h
end
theorem VR.form {ι:Inj}{v:AV}{cv:Value}(h:VR ι v cv)(ht:v≠ .top)(ha:∀cs,v≠ .agg cs):cv.cells= #[cv]∧((∀cs,v≠ .tup cs)→cv.oneCell'=true):=by
 cases v with
 |top=>exact absurd rfl ht
 |agg cs=>exact absurd rfl (ha cs)
 |bool b=>simp only[VR] at h;subst h;exact⟨rfl,fun _=>rfl⟩
 |int k n=>simp only[VR] at h;subst h;exact⟨rfl,fun _=>rfl⟩
 |flt k n=>simp only[VR] at h;subst h;exact⟨rfl,fun _=>rfl⟩
 |str s=>simp only[VR] at h;obtain⟨_,rfl,_⟩:=h;exact⟨rfl,fun _=>rfl⟩
 |ptr a=>
  cases a with
  |none=>simp only[VR] at h;subst h;exact⟨rfl,fun _=>rfl⟩
  |some p=>simp only[VR] at h;obtain⟨_,_,_,rfl⟩:=h;exact⟨rfl,fun _=>rfl⟩
 |slc a n c x=>
  cases a with
  |none=>simp only[VR] at h;obtain⟨_,_,_,rfl⟩:=h;exact⟨rfl,fun _=>rfl⟩
  |some p=>simp only[VR] at h;obtain⟨_,_,_,_,_,rfl,_⟩:=h;exact⟨rfl,fun _=>rfl⟩
 |map r=>
  cases r with
  |none=>simp only[VR] at h;subst h;exact⟨rfl,fun _=>rfl⟩
  |some p=>simp only[VR] at h;obtain⟨_,_,_,rfl⟩:=h;exact⟨rfl,fun _=>rfl⟩
 |func f a b=>simp only[VR] at h;obtain⟨_,_,e,_⟩:=h;rw[e];exact⟨rfl,fun _=>rfl⟩
 |gp g o=>simp only[VR] at h;subst h;exact⟨rfl,fun _=>rfl⟩
 |cls k b m r=>simp only[VR] at h;obtain⟨_,rfl,_⟩:=h;exact⟨rfl,fun _=>rfl⟩
 |ne k n=>simp only[VR] at h;obtain⟨_,rfl,_⟩:=h;exact⟨rfl,fun _=>rfl⟩
 |nilFunc=>simp only[VR] at h;subst h;exact⟨rfl,fun _=>rfl⟩
 |any=>
  simp only[VR] at h
  cases cv<;>first
   |exact⟨rfl,fun _=>rfl⟩
   |exact absurd rfl (h.1 _)
   |exact absurd rfl (h.2 _)
 |yld b=>simp only[VR] at h;obtain⟨c,d,_,rfl⟩:=h;exact⟨rfl,fun _=>rfl⟩
 |iface t u=>simp only[VR] at h;obtain⟨_,rfl,_⟩:=h;exact⟨rfl,fun _=>rfl⟩
 |nilIface=>simp only[VR] at h;subst h;exact⟨rfl,fun _=>rfl⟩
 |tup cs=>simp only[VR] at h;obtain⟨_,rfl,_⟩:=h;exact⟨rfl,fun h=>absurd rfl (h cs)⟩
theorem VR.cells {ι:Inj}{v:AV}{cv:Value}(h:VR ι v cv)(ht:v≠ .top):VRs ι v.cells cv.cells.toList:=by
 by_cases ha:∃cs,v= .agg cs
 ·obtain⟨cs,rfl⟩:=ha
  simp only[VR] at h;obtain⟨x,rfl,hx⟩:=h;exact hx
 ·have hf:=(h.form ht fun cs e=>ha ⟨cs,e⟩).1
  rw[hf]
  have:v.cells=[v]:=by
   cases v<;>first|rfl|exact absurd ⟨_,rfl⟩ ha
  rw[this];exact VRs.one h
theorem VR.one {ι:Inj}{v:AV}{cv:Value}(h:VR ι v cv)(ho:v.one=true):cv.oneCell'=true:=
 (h.form (by rintro rfl;simp[AV.one] at ho) (by rintro cs rfl;simp[AV.one] at ho)).2 (by rintro cs rfl;simp[AV.one] at ho)
theorem VRs.zK {ι:Inj}:∀ {l:List AV} {m:List Value},VRs ι l m→aX l=true→∀v∈m,v.oneCell'=true
 |[],[],_,_,_,h=>by simp at h
 |[],_::_,h,_,_,_=>by simp[VRs] at h
 | _::_,[],h,_,_,_=>by simp[VRs] at h
 |a::l,v::m,h,ho,x,hx=>by
  simp only[VRs] at h
  simp[aX] at ho
  rcases List.mem_cons.1 hx with rfl|hx
  ·exact h.1.one ho.1
  ·exact VRs.zK h.2 ho.2 x hx
theorem fI {v:AV}(h:aX v.cells=true):v≠ .top:=by
 rintro rfl;simp[AV.cells,aX,AV.one] at h
theorem mo {c:Tr AV}:∀ {n i:Nat} {l:List AV},ldL c i n=some l→l.length=n∧∀j v,l[j]? =some v→c.get (i+j)=some v
 |0,i,l,h=>by simp[ldL] at h;subst h;simp
 |n+1,i,l,h=>by
  simp only[ldL] at h
  split at h
  ·rename_i v hv
   split at h
   ·rename_i l' hl
    cases h
    obtain⟨h1,h2⟩:=mo hl
    refine⟨by simp[h1],fun j x hx=>?_⟩
    cases j with
    |zero=>simp at hx;subst hx;exact hv
    |succ j=>have:=h2 j x (by simpa using hx);rw[←this];congr 1;omega
   ·cases h
  ·cases h
theorem BB:∀ {vs:List AV} {i:Nat} {c c':Tr AV},stL vs i c=some c'→
  (∀j,j<vs.length→∃v,c.get (i+j)=some v)∧∀j x,c'.get j=some x→(i≤j∧vs[j- i]? =some x)∨((j<i∨i+vs.length≤j)∧c.get j=some x)
 |[],i,c,c',h=>by
  simp[stL] at h;subst h
  exact⟨fun j hj=>by simp at hj,fun j x hx=> .inr ⟨by simp;omega,hx⟩⟩
 |v::vs,i,c,c',h=>by
  simp only[stL] at h
  split at h
  ·rename_i u hu
   simp only[tK,kH] at h
   obtain⟨h1,h2⟩:=BB h
   refine⟨fun j hj=>?_,fun j x hx=>?_⟩
   ·cases j with
    |zero=>exact⟨u,hu⟩
    |succ j=>
     obtain⟨y,hy⟩:=h1 j (by simpa using hj)
     rcases Tr.df hy with⟨e,_⟩|⟨_,hy⟩
     ·omega
     ·exact⟨y,by rw[←hy];congr 1;omega⟩
   ·rcases h2 j x hx with⟨a,b⟩|⟨a,b⟩
    ·refine .inl ⟨by omega,?_⟩
     have:j- i=(j- (i+1))+1:=by omega
     rw[this];simpa using b
    ·rcases Tr.df b with⟨e,e'⟩|⟨e,b⟩
     ·subst e;subst e';exact .inl ⟨Nat.le_refl _,by simp⟩
     ·exact .inr ⟨by simp;omega,b⟩
  ·cases h
section
variable {P:Program}{ι:Inj}{s:St}{w:World}
theorem add_eq (b o n:Nat):(⟨b,o,none⟩:Addr).add n=⟨b,o+n,none⟩:=by
 unfold Addr.add;split<;>simp_all
theorem cell_of {cb o:Nat}{cs:Array Value}{e:TypeId}{fz:Nat×Nat}{v:Value}(h:w.heap[cb]? =some (.cells cs e fz))(hv:cs[o]? =some v):
  w.cell? ⟨cb,o,none⟩=some v:=by simp[World.cell?,h,hv]
theorem FD {cb o:Nat}{cs:Array Value}{e:TypeId}{fz:Nat×Nat}(h:w.heap[cb]? =some (.cells cs e fz))(hv:¬(fz.1≤o∧o<fz.2)):
  w.frozen? ⟨cb,o,none⟩=false:=by
 simp[World.frozen?,h];omega
theorem zr {cb:Nat}{d:WD}{c:Tr AV}{n k:Nat}{o:Nat}{l:List AV}(h:HR P ι s w)(hb:∃b,ι b=some (cb,d)∧s.cells b=some (c,n))(hl:ldL c o k=some l):
  ∃vs:List Value,(loadCells ⟨cb,d.1+o,none⟩ k).run P w= .ok vs.toArray w∧VRs ι l vs:=by
 obtain⟨b,hb,hc⟩:=hb
 obtain⟨cs,e,fz,h1,h0,h2⟩:=h.cells hb hc
 obtain⟨hlen,hget⟩:=mo hl
 have hex:∀j,j<k→∃v cv,l[j]? =some v∧cs[d.1+(o+j)]? =some cv∧VR ι v cv:=fun j hj=>by
  have hj':j<l.length:=by omega
  have e1:l[j]? =some l[j]:=by simp[hj']
  obtain⟨_,_,cv,h3,h4⟩:=h2 _ _ (hget j _ e1)
  exact⟨_,cv,e1,h3,h4⟩
 refine⟨(List.range k).map fun j=>cs[d.1+(o+j)]?.getD undef,?_,?_⟩
 ·have hr:=run_loadCells_list (P:=P) (w:=w) ⟨cb,d.1+o,none⟩ ((List.range k).map fun j=>cs[d.1+(o+j)]?.getD undef) (fun j v hv=>by
   rw[add_eq]
   simp only[List.getElem?_map] at hv
   have hj:j<k:=by
    rcases Nat.lt_or_ge j k with h|h
    ·exact h
    ·rw[List.getElem?_eq_none (by simpa using h)] at hv;simp at hv
   rw[List.getElem?_range hj] at hv
   simp only[Option.map_some,Option.some.injEq] at hv
   obtain⟨_,cv,_,h3,_⟩:=hex j hj
   rw[h3] at hv;simp at hv;subst hv
   exact cell_of h1 (by rw[←h3];congr 1;omega))
  simpa using hr
 ·refine VRs.ext (by simp[hlen]) fun i a v ha hv=>?_
  have hi:i<k:=by
   rcases Nat.lt_or_ge i k with h|h
   ·exact h
   ·rw[List.getElem?_eq_none (by omega)] at ha;cases ha
  simp only[List.getElem?_map] at hv
  rw[List.getElem?_range hi] at hv
  simp only[Option.map_some,Option.some.injEq] at hv
  obtain⟨a',cv,h3,h4,h5⟩:=hex i hi
  rw[h3] at ha;cases ha
  rw[h4] at hv;simp at hv;subst hv;exact h5
theorem Dj (cb off:Nat)(e:TypeId)(fz:Nat×Nat):∀ (vs:List Value) (i:Nat) (cs:Array Value) (w:World),w.heap[cb]? =some (.cells cs e fz)→(∀v∈vs,v.oneCell'=true)→
  (∀j,j<vs.length→off+i+j<cs.size∧¬(fz.1≤off+i+j∧off+i+j<fz.2))→
  ∃w' cs',(storeCells ⟨cb,off,none⟩ vs i).run P w= .ok () w'∧w'.heap[cb]? =some (.cells cs' e fz)∧w'.heap.size=w.heap.size∧(∀c,c≠cb→w'.heap[c]? =w.heap[c]?)∧
   Kin w w'∧cs'.size=cs.size∧∀j,cs'[j]? =if off+i≤j∧j<off+i+vs.length then vs[j- (off+i)]? else cs[j]?
 |[],i,cs,w,h,_,_=>⟨w,cs,by simp[storeCells],h,rfl,fun _ _=>rfl,Kin.refl _,rfl,fun j=>by rw[if_neg (by simp only[List.length_nil];omega)]⟩
 |v::vs,i,cs,w,h,hone,hin=>by
  obtain⟨hlt,hfr⟩:=hin 0 (by simp)
  rw[Nat.add_zero] at hlt hfr
  have hc:w.cell? ⟨cb,off+i,none⟩=some cs[off+i]:=cell_of h (by simp)
  have hf:w.frozen? ⟨cb,off+i,none⟩=false:=FD h hfr
  have hcb:cb<w.heap.size:=by
   rcases Nat.lt_or_ge cb w.heap.size with h'|h'
   ·exact h'
   ·rw[Array.getElem?_eq_none h'] at h;cases h
  have hw1:(w.setCell ⟨cb,off+i,none⟩ v).heap[cb]? =some (.cells (cs.setIfInBounds (off+i) v) e fz):=by
   simp only[World.setCell,Array.getElem?_modify]
   simp[h]
  have hoth:∀c,c≠cb→(w.setCell ⟨cb,off+i,none⟩ v).heap[c]? =w.heap[c]? :=fun c hcc=>by
   simp only[World.setCell,Array.getElem?_modify]
   rw[if_neg (Ne.symm hcc)]
  obtain⟨w',cs',h1,h2,h3,h4,h0,h5,h6⟩:=Dj cb off e fz vs (i+1) _ _ hw1 (fun x hx=>hone x (List.mem_cons_of_mem _ hx)) (fun j hj=>by
   have:=hin (j+1) (by simpa using hj)
   simp only[Array.size_setIfInBounds]
   have e1:off+(i+1)+j=off+i+(j+1):=by omega
   rw[e1];exact this)
  refine⟨w',cs',?_,h2,by rw[h3];simp[World.setCell],fun c hcc=>(h4 c hcc).trans (hoth c hcc),Kin.trans ⟨rfl,rfl⟩ h0,by rw[h5];simp,fun j=>?_⟩
  ·simp only[storeCells,Sem.run_bind,add_eq]
   rw[run_store P w _ v _ (hone v (List.mem_cons_self ..))]
   simp only[hc,hf,Bool.false_eq_true,if_false,Result.andThen_ok]
   exact h1
  ·rw[h6 j]
   simp only[List.length_cons]
   by_cases a:off+(i+1)≤j∧j<off+(i+1)+vs.length
   ·rw[if_pos a,if_pos (by omega)]
    have e1:j- (off+i)=(j- (off+(i+1)))+1:=by omega
    rw[e1];simp
   ·rw[if_neg a]
    by_cases b:j=off+i
    ·subst b
     rw[if_pos (by omega)]
     have e2:off+i- (off+i)=0:=by omega
     rw[e2,Array.getElem?_setIfInBounds_self_of_lt hlt];rfl
    ·rw[if_neg (by omega)]
     rw[Array.getElem?_setIfInBounds_ne (by omega)]
theorem HR.store {b cb n:Nat}{d:WD}{c c':Tr AV}{vs:List AV}{cvs:List Value}{o:Nat}(h:HR P ι s w)(hb:ι b=some (cb,d))(hc:s.cells b=some (c,n))(hst:stL vs o c=some c')
  (hv:VRs ι vs cvs)(hone:aX vs=true):
  ∃w',(storeCells ⟨cb,d.1+o,none⟩ cvs).run P w= .ok () w'∧HR P ι (s.q7 b c' n) w'∧Ext ι s w ι (s.q7 b c' n) w':=by
 obtain⟨cs,e,fz,h1,h0,h2⟩:=h.cells hb hc
 obtain⟨h3,h4⟩:=BB hst
 have hlen:=hv.length
 have hin:∀j,j<cvs.length→d.1+o+0+j<cs.size∧¬(fz.1≤d.1+o+0+j∧d.1+o+0+j<fz.2):=fun j hj=>by
  obtain⟨u,hu⟩:=h3 j (by omega)
  obtain⟨_,hz,_⟩:=h2 _ _ hu
  rw[show d.1+o+0+j=d.1+(o+j) by omega]
  exact h0 _ hz
 obtain⟨w',cs',g1,g2,g3,g4,g0,g5,g6⟩:=Dj (P:=P) cb (d.1+o) e fz cvs 0 cs w h1 (hv.zK hone) hin
 have hn:BR P ι w' cb d (.cells c' n):=by
  refine⟨cs',e,fz,g2,fun j hj=>by rw[g5];exact h0 j hj,fun i x hx=>?_,fun hw=>by rw[g5];exact h.plain hb (St.dK hc) hw h1⟩
  rcases h4 i x hx with⟨a,b⟩|⟨a,b⟩
  ·obtain⟨cv,hcv,hr⟩:=hv.get b
   have hi:i- o<vs.length:=by
    rcases Nat.lt_or_ge (i- o) vs.length with h'|h'
    ·exact h'
    ·rw[List.getElem?_eq_none h'] at b;cases b
   obtain⟨u,hu⟩:=h3 (i- o) hi
   have e0:o+(i- o)=i:=by omega
   rw[e0] at hu
   obtain⟨k1,k2,_⟩:=h2 _ _ hu
   refine⟨k1,k2,cv,?_,hr⟩
   rw[g6,if_pos (by omega)]
   rw[←hcv];congr 1;omega
  ·obtain⟨k1,k2,cv,k3,k4⟩:=h2 _ _ b
   refine⟨k1,k2,cv,?_,k4⟩
   rw[g6,if_neg (by omega)];exact k3
 have hkp:jd w w' cb d.2:=fun cs0 e0 fz0 hc0=>by
  rw[h1] at hc0;cases hc0
  refine⟨cs',g2,g5,fun j hj=>?_⟩
  rw[g6]
  split
  ·rename_i hr
   obtain⟨u,hu⟩:=h3 (j- (d.1+o)) (by omega)
   have:=(h2 _ _ hu).2.1
   rw[show d.1+(o+(j- (d.1+o)))=j by omega] at this
   exact absurd this hj
  ·rfl
 have hp:=h.put hb (St.dK hc) g0 g3 g4 hn hkp
 have e1:s.q7 b c' n={s with h:=s.h.put b (.cells c' n)}:=by simp[St.q7]
 rw[e1]
 exact⟨w',g1,hp.1,hp.2⟩
theorem ui {X:Ctx}(hX:dU P X){t:TypeId}{a v:AV}{ca:Value}(h:HR P ι s w)(hl:loadT X t a s=some v)(ha:VR ι a ca):
  ∃cv,(Instr.loadAt t ca).run P w= .ok cv w∧VR ι v cv:=by
 unfold loadT at hl
 split at hl
 ·rename_i b off
  split at hl
  ·rename_i c n hc
   split at hl
   ·rename_i d k hd hk
    simp only[VR] at ha
    obtain⟨cb,dd,hb,rfl⟩:=ha
    split at hl
    ·rename_i hagg
     split at hl
     ·rename_i l hl'
      cases hl
      obtain⟨vs,h1,h2⟩:=zr (P:=P) h ⟨b,hb,hc⟩ hl'
      refine⟨.agg vs.toArray,?_,?_⟩
      ·simp[Instr.loadAt,Instr.sureAddr,loadVar,nt hX hd,hagg,cO hX hk,h1]
      ·simp only[VR];exact⟨_,rfl,by simpa using h2⟩
     ·cases hl
    ·rename_i hagg
     obtain⟨cs,e,fz,h1,_,h2⟩:=h.cells hb hc
     obtain⟨_,_,cv,h3,h4⟩:=h2 _ _ hl
     refine⟨cv,?_,h4⟩
     simp[Instr.loadAt,Instr.sureAddr,loadVar,nt hX hd,hagg,cell_of h1 h3]
   ·cases hl
  ·cases hl
 ·rename_i g off
  split at hl
  ·rename_i c hc
   split at hl
   ·rename_i d hd
    simp only[VR] at ha
    subst ha
    split at hl
    ·cases hl
    ·rename_i hagg
     obtain⟨_,cs,e,fz,h1,h2⟩:=h.gl g c hc
     obtain⟨cv,h3,h4⟩:=h2 _ _ hl
     refine⟨cv,?_,h4.mono (Inj.nil_le ι)⟩
     simp[Instr.loadAt,Instr.sureAddr,loadVar,nt hX hd,hagg,cell_of h1 h3]
   ·cases hl
  ·cases hl
 ·cases hl
theorem zg {X:Ctx}(hX:dU P X){t:TypeId}{a v:AV}{ca cv:Value}{s':St}(h:HR P ι s w)(hs:storeT X t a v s=some s')(ha:VR ι a ca)(hv:VR ι v cv):
  ∃w',(Instr.storeAt t ca cv).run P w= .ok () w'∧HR P ι s' w'∧Ext ι s w ι s' w':=by
 unfold storeT at hs
 split at hs
 ·rename_i b off
  split at hs
  ·rename_i c n hc
   split at hs
   ·rename_i k hk hone
    split at hs
    ·rename_i hlen
     split at hs
     ·rename_i c' hst
      cases hs
      simp only[VR] at ha
      obtain⟨cb,dd,hb,rfl⟩:=ha
      have hcs:=hv.cells (fI hone)
      obtain⟨w',h1,h2,h3⟩:=h.store (P:=P) hb hc hst hcs hone
      refine⟨w',?_,h2,h3⟩
      have e1:cv.cells.size=k:=by
       have:=hcs.length
       have:=Nat.beq_eq.mp hlen
       simp at*;omega
      simp[Instr.storeAt,Instr.sureAddr,storeVar,cO hX hk,e1,h1]
     ·cases hs
    ·cases hs
   ·cases hs
  ·cases hs
 ·cases hs
theorem HR.dO {cs:List AV}{cvs:Array Value}{w':World}{elem:TypeId}(h:HR P ι s w)(hv:VRs ι cs (cvs.toList.take cs.length))
  {fz:Nat×Nat}(hfz:fz=(0,0)∨False)(hw:w'.heap=w.heap.push (.cells cvs elem fz))(hkin:Kin w w'):
  HR P (ι.at s.nx (w.heap.size,0,up cvs.size)) (s.jU (Tr.of cs) cs.length).2 w'∧Ext ι s w (ι.at s.nx (w.heap.size,0,up cvs.size)) (s.jU (Tr.of cs) cs.length).2 w'∧(s.jU (Tr.of cs) cs.length).1=s.nx:=by
 have e1:s.jU (Tr.of cs) cs.length=s.new (.cells (Tr.of cs) cs.length):=by simp[St.jU]
 rw[e1]
 have:=h.new (z:=cvs.size) hw hkin (ab:= .cells (Tr.of cs) cs.length) (fun κ hκ=>by
  refine⟨cvs,elem,fz,by rw[hw];exact dT,fun j hj=>⟨hj,?_⟩,fun i v hi=>?_,fun _=>by rcases hfz with rfl|h'<;>simp_all⟩
  ·simp only at hj
   rcases hfz with rfl|h'
   ·simp
   ·exact h'.elim
  ·have hi:=Tr.dF hi
   have hlt:i<cs.length:=by
    rcases Nat.lt_or_ge i cs.length with h'|h'
    ·exact h'
    ·rw[List.getElem?_eq_none h'] at hi;cases hi
   obtain⟨cv,h1,h2⟩:=hv.get hi
   rw[List.getElem?_take] at h1
   split at h1
   ·have h1:cvs[i]? =some cv:=by simpa using h1
    have hsz:i<cvs.size:=by
     rcases Nat.lt_or_ge i cvs.size with h'|h'
     ·exact h'
     ·rw[Array.getElem?_eq_none h'] at h1;cases h1
    exact⟨hlt,by simpa using hsz,cv,by simpa using h1,h2.mono hκ⟩
   ·exact absurd hlt (by assumption))
 exact⟨this.1,this.2,rfl⟩
end
end Go.Am
end
