/-
  A part of the texts.
-/
import Derived.LoopNIn
import Derived.RecoverIn
import Derived.RangeFuncRecord
import Derived.Test.YtofohkdkpbigiaaQaf
section
namespace Go.Am
theorem CI (m i:Nat):bit m i=m.testBit i:=by
 have e1:m.testBit i=decide (m/2^i % 2=1):=Nat.testBit_eq_decide_div_mod_eq
 have e2:Nat.shiftRight m i=m/2^i:=Nat.shiftRight_eq_div_pow m i
 rw[e1]
 unfold bit
 rw[e2]
 cases h:decide (m/2^i % 2=1)
 ·have h:¬m/2^i % 2=1:=by simpa using h
  cases hb:Nat.beq (Nat.mod (m/2^i) 2) 1
  ·rfl
  ·exact absurd (Nat.beq_eq.mp hb) h
 ·have h:m/2^i % 2=1:=by simpa using h
  exact Nat.beq_eq.mpr h
theorem pw (m i j:Nat):bit (Nat.lor m (Nat.pow 2 i)) j=(bit m j||decide (i=j)):=by
 rw[CI,CI]
 have:Nat.lor m (Nat.pow 2 i)=m|||2^i:=rfl
 rw[this,Nat.testBit_or,Nat.testBit_two_pow]
theorem A5 (j:Nat):bit 0 j=false:=by rw[CI];simp
theorem yJ (e:Edge):Region.binds .any e=onB e:=by
 unfold Region.binds onB
 cases e.ground<;>rfl
section
variable {ops:Array Oper}
theorem gq {i:Nat}{o:Oper}:(i,o)∈dT ops↔ops[i]? =some o:=by
 unfold dT
 simp only[List.mem_map,Prod.mk.injEq,Prod.exists]
 constructor
 ·rintro⟨o',i',h,rfl,rfl⟩
  have:=List.mem_zipIdx' h
  obtain⟨h1,h2⟩:=this
  rw[h2]
  simp
 ·intro h
  refine⟨o,i,?_,rfl,rfl⟩
  rw[List.mem_zipIdx_iff_getElem?]
  simpa using h
theorem rR {d:Nat}:∀ {l:List Nat},Cv d l=true↔d∈l
 |[]=>by simp[Cv]
 |x::l=>by
  simp only[Cv,Bool.or_eq_true,rR,List.mem_cons]
  constructor
  ·rintro(h|h)
   ·exact .inl (Nat.beq_eq.mp h)
   ·exact .inr h
  ·rintro(h|h)
   ·exact .inl (Nat.beq_eq.mpr h)
   ·exact .inr h
theorem nO {o:Oper}{i:Nat}:bP o i=true↔∃e∈o.after,onB e=true∧e.on=i:=by
 unfold bP
 simp only[List.any_eq_true,Bool.and_eq_true,Array.mem_toList_iff]
 constructor
 ·rintro⟨e,h1,h2,h3⟩;exact⟨e,h1,h2,Nat.beq_eq.mp h3⟩
 ·rintro⟨e,h1,h2,h3⟩;exact⟨e,h1,h2,Nat.beq_eq.mpr h3⟩
theorem sI {done:Nat}{o:Oper}:uU done o=true↔∀e∈o.after,onB e=true→bit done e.on=true:=by
 unfold uU
 simp only[List.all_eq_true,Bool.or_eq_true,Bool.not_eq_true',Array.mem_toList_iff]
 constructor
 ·intro h e he hb
  rcases h e he with h|h
  ·rw[hb] at h;cases h
  ·exact h
 ·intro h e he
  cases hb:onB e
  ·exact .inl rfl
  ·exact .inr (h e he hb)
theorem iN (h:qP ops=true){i j d:Nat}{oi oj:Oper}(hi:ops[i]? =some oi)(hj:ops[j]? =some oj)(ha:mi oi=false)(hd:oi.dst=some d):
  (i=j→d∉oj.looksAt ops)∧(i≠j→oj.dst≠some d∧(d∈oj.looksAt ops→bP oj i=true)):=by
 have h1:=List.all_eq_true.mp h _ (gq.mpr hi)
 simp only[zR,ha,hd,Bool.false_or,Bool.and_eq_true] at h1
 have h2:=List.all_eq_true.mp h1.1 _ (gq.mpr hj)
 unfold behind at h2
 split at h2
 ·rename_i hij
  have hij:=Nat.beq_eq.mp hij
  simp only at hij
  refine⟨fun _ hm=>?_,fun hne=>absurd hij hne⟩
  rw[rR.mpr hm] at h2;cases h2
 ·rename_i hij
  have hij:i≠j:=fun e=>by
   have:=Nat.beq_eq.mpr e
   simp only at hij
   rw[this] at hij;cases hij
  refine⟨fun e=>absurd e hij,fun _=>?_⟩
  simp only[Bool.and_eq_true,Bool.not_eq_true',Bool.or_eq_true] at h2
  refine⟨fun e=>?_,fun hm=>?_⟩
  ·have:=h2.1
   simp[isDst,e] at this
  ·rcases h2.2 with h3|h3
   ·rw[rR.mpr hm] at h3;cases h3
   ·exact h3
theorem zW (h:qP ops=true){i j d:Nat}{oi oj:Oper}(hi:ops[i]? =some oi)(hj:ops[j]? =some oj)(hl:mP oi=true)(hd:oj.dst=some d)(hne:i≠j)(hm:d∈oi.looksAt ops):bP oi j=true:=by
 have h1:=List.all_eq_true.mp h _ (gq.mpr hi)
 simp only[zR,Bool.and_eq_true,hl,Bool.not_true,Bool.false_or] at h1
 have h2:=List.all_eq_true.mp h1.2 _ (gq.mpr hj)
 simp only[AH,hd,Bool.or_eq_true,Bool.not_eq_true'] at h2
 rcases h2 with h2|h2|h2
 ·exact absurd (Nat.beq_eq.mp h2) hne
 ·rw[rR.mpr hm] at h2;cases h2
 ·exact h2
theorem iM {L:Array Bool}{i j:Nat}(hi:i<L.size):(L.setIfInBounds i true).getD j false=(L.getD j false||decide (i=j)):=by
 by_cases h:i=j
 ·subst h;simp[hi]
 ·simp[h,Array.getElem?_setIfInBounds_ne h]
theorem pM {L:Array Bool}(hs:L.size=ops.size){j:Nat}:j∈Region.ready .any ops L↔∃o,ops[j]? =some o∧L.getD j false=false∧∀e∈o.after,onB e=true→L.getD e.on false=true:=by
 rw[mem_ready]
 constructor
 ·rintro⟨h1,o,h2,h3⟩
  have hlt:j<L.size:=by rw[hs];exact(Array.getElem?_eq_some_iff.mp h2).1
  refine⟨o,h2,?_,fun e he hb=>h3 e he (by rw[yJ];exact hb)⟩
  simp[hlt] at h1 ⊢;exact h1
 ·rintro⟨o,h2,h1,h3⟩
  have hlt:j<L.size:=by rw[hs];exact(Array.getElem?_eq_some_iff.mp h2).1
  refine⟨?_,o,h2,fun e he hb=>h3 e he (by rw[←yJ];exact hb)⟩
  simp[hlt] at h1 ⊢;exact h1
end
theorem HR.lay {P:Program}{ι:Inj}{s:St}{w w':World}(h:HR P ι s w){b:Nat}{ab:AB}{o:Obj}(z:Nat)(hb:ι b=none)(hlt:b<s.nx)(hg:s.h.get b=some ab)(hh:w'.heap=w.heap.push o)(hbr:∀κ,ι.le κ→BR P κ w' w.heap.size (0,z) ab):
  HR P (ι.at b (w.heap.size,0,z)) s w':=by
 have hle:ι.le (ι.at b (w.heap.size,0,z)):=Inj.yk hb
 have old:∀c x,c≠b→(ι.at b (w.heap.size,0,z)) c=some x→ι c=some x:=fun c x hc hx=>by
  unfold Inj.at at hx;rwa [if_neg hc] at hx
 refine⟨fun g c hc=>?_,fun c cb d hx hs=>?_,fun c x hx=>?_,fun c cb d ab' hx hg'=>?_,fun c c' cb d d' ab1 ab2 h1 h2 g1 g2=>?_⟩
 ·obtain⟨h1,cs,e,fz,h2,h3⟩:=h.gl g c hc
  have hlt':=h.gl.lt hc
  refine⟨?_,cs,e,fz,by rw[hh,gS hlt'];exact h2,h3⟩
  rintro⟨b',d',ab',x1,x2⟩
  by_cases e:b'=b
  ·subst e;rw[Inj.dr] at x1;cases x1;omega
  ·exact h1 ⟨b',d',ab',old b' _ e x1,x2⟩
 ·by_cases e:c=b
  ·subst e;rw[Inj.dr] at hx;cases hx;rfl
  ·exact h.base c cb d (old c _ e hx) hs
 ·by_cases e:c=b
  ·rw[e];exact hlt
  ·exact h.dom c x (old c x e hx)
 ·by_cases e:c=b
  ·subst e
   rw[Inj.dr] at hx;cases hx
   rw[hg] at hg';cases hg'
   exact hbr _ hle
  ·have hbr:=h.br c cb d ab' (old c _ e hx) hg'
   exact hbr.frame (by rw[hh];exact gS hbr.lt) hle
 ·by_cases e:c=b<;>by_cases e':c'=b
  ·rw[e,e']
  ·subst e;rw[Inj.dr] at h1;cases h1
   have:=(h.br c' _ _ ab2 (old _ _ e' h2) g2).lt;omega
  ·subst e';rw[Inj.dr] at h2;cases h2
   have:=(h.br c _ _ ab1 (old _ _ e h1) g1).lt;omega
  ·exact h.inj c c' cb d d' ab1 ab2 (old _ _ e h1) (old _ _ e' h2) g1 g2
theorem Ext.lay {ι₀ ι:Inj}{s₀ s:St}{w₀ w w':World}(h:Ext ι₀ s₀ w₀ ι s w){b:Nat}{o:Obj}(z:Nat)(hb:ι b=none)(hlt:s₀.nx≤b)(hh:w'.heap=w.heap.push o)(hkin:Kin w w'):
  Ext ι₀ s₀ w₀ (ι.at b (w.heap.size,0,z)) s w':=by
 refine⟨Inj.le_trans h.le (Inj.yk hb),by rw[hh];have:=h.size;simp;omega,fun cb hcb ho=>?_,fun c hc=>?_,h.nx,h.kin.trans hkin⟩
 ·obtain⟨h1,h2⟩:=h.iV cb hcb ho
  refine⟨by rw[hh,gS (Nat.lt_of_lt_of_le hcb h.size)];exact h1,?_⟩
  rintro⟨c,d,ab,hx,hg⟩
  by_cases e:c=b
  ·subst e;rw[Inj.dr] at hx;cases hx
   have:=h.size;omega
  ·unfold Inj.at at hx;rw[if_neg e] at hx
   exact h2 ⟨c,d,ab,hx,hg⟩
 ·rw[←h.old c hc]
  unfold Inj.at
  rw[if_neg (by omega)]
theorem HR.ahead {P:Program}{ι:Inj}{s:St}{w:World}(h:HR P ι s w)(ab:AB):HR P ι (s.new ab).2 w:=by
 have hne:∀c x,ι c=some x→c≠s.nx:=fun c x hx e=>by
  have:=h.dom c x hx;omega
 have live:∀c x ab',ι c=some x→(s.new ab).2.h.get c=some ab'→s.h.get c=some ab':=fun c x ab' hx hg=>by
  rcases Tr.dB hg with⟨e,_⟩|⟨_,hg⟩
  ·exact absurd e (hne c x hx)
  ·exact hg
 exact⟨fun g c hc=>let⟨h1,h2⟩:=h.gl g c hc;⟨fun⟨b',d',ab',x1,x2⟩=>h1 ⟨b',d',ab',x1,live b' _ _ x1 x2⟩,h2⟩,h.base,fun c x hx=>Nat.lt_succ_of_lt (h.dom c x hx),fun c cb d ab' hx hg=>h.br c cb d ab' hx (live c _ _ hx hg),fun c c' cb d d' ab1 ab2 h1 h2 g1 g2=>h.inj c c' cb d d' ab1 ab2 h1 h2 (live c _ _ h1 g1) (live c' _ _ h2 g2)⟩
theorem Ext.ahead {P:Program}{ι₀ ι:Inj}{s₀ s:St}{w₀ w:World}(h:Ext ι₀ s₀ w₀ ι s w)(hH:HR P ι s w)(ab:AB):Ext ι₀ s₀ w₀ ι (s.new ab).2 w:=by
 refine⟨h.le,h.size,fun cb hcb ho=>⟨(h.iV cb hcb ho).1,?_⟩,h.old,Nat.le_succ_of_le h.nx,h.kin⟩
 rintro⟨c,d,ab',hx,hg⟩
 have hne:c≠s.nx:=fun e=>by have:=hH.dom c _ hx;omega
 rcases Tr.dB hg with⟨e,_⟩|⟨_,hg⟩
 ·exact hne e
 ·exact(h.iV cb hcb ho).2 ⟨c,d,ab',hx,hg⟩
end Go.Am
end
section
namespace Go.Am
structure PO (P:Program)(X:Ctx)(ops:Array Oper)(b0:Nat)(fr:Fr)(s:St)(p:bt):Prop where
 op:ops[p.i]? =some p.o
 na:mi p.o=false
 slot:∀d u,p.o.dst=some d→fr.t.get d=some u→u=p.v
 plain:p.laid=none→(bI ops fr p.o=some true∧(fQ X p.o fr s=some (.old p.v)∨fQ X p.o fr s=some (.pure p.v)))∨(bI ops fr p.o=some false∧p.v= .tup [])
 laid:∀b ab,p.laid=some (b,ab)→bI ops fr p.o=some true∧s.h.get b=some ab∧b0≤b∧b<s.nx∧mP p.o=true∧
  ∃f,p.v=f b∧∀ι w (a:Act),(∀x∈p.o.op.operands,VR ι (fr.opd x) (a.eval x))→sn P ι w ((execOp a.eval p.o).run P w) ab f
def Hid (L:Array Bool)(pend:List bt)(k:Nat):Prop:=∃p∈pend,L.getD p.i false=false∧p.o.dst=some k
def Ord (L:Array Bool):List bt→Prop
 |[]=>True
 |p::l=>(∀e∈p.o.after,onB e=true→L.getD e.on false=true∨∃q∈l,q.i=e.on)∧Ord L l
structure DI (P:Program)(X:Ctx)(ops:Array Oper)(N:Nat)(ι₀:Inj)(s₀:St)(w₀:World)(done:Nat)(pend:List bt)(fr:Fr)(s:St)(L:Array Bool)(ι:Inj)(a:Act)(w:World):Prop where
 size:L.size=ops.size
 rng:∀i,bit done i=true→i<ops.size
 sub:∀i,L.getD i false=true→bit done i=true
 cov:∀i,bit done i=true→L.getD i false=true∨∃p∈pend,p.i=i
 pdone:∀p∈pend,bit done p.i=true
 po:∀p∈pend,PO P X ops s₀.nx fr s p
 out:∀p∈pend,∀b ab,p.laid=some (b,ab)→L.getD p.i false=false→ι b=none
 uniq:∀p∈pend,∀q∈pend,∀b x y,p.laid=some (b,x)→q.laid=some (b,y)→p.i=q.i
 one:∀p∈pend,∀q∈pend,p.i=q.i→p=q
 ord:Ord L pend
 frame:FRN N (Hid L pend) ι fr a
 heap:HR P ι s w
 ext:Ext ι₀ s₀ w₀ ι s w
theorem Ord.mono {L L':Array Bool}(h:∀i,L.getD i false=true→L'.getD i false=true):∀ {l:List bt},Ord L l→Ord L' l
 |[],_=>trivial
 | _::_,⟨h1,h2⟩=>⟨fun e he hb=>(h1 e he hb).imp (h _) id,h2.mono h⟩
theorem Ord.filter {L:Array Bool}{f:bt→Bool}:∀ {l:List bt},(∀p∈l,f p=false→L.getD p.i false=true)→Ord L l→Ord L (l.filter f)
 |[],_,_=>trivial
 |p::l,hf,⟨h1,h2⟩=>by
  have ih:=Ord.filter (f:=f) (fun q hq=>hf q (by simp[hq])) h2
  rw[List.filter_cons]
  split
  ·refine⟨fun e he hb=>?_,ih⟩
   rcases h1 e he hb with h|⟨q,hq,e'⟩
   ·exact .inl h
   ·cases hfq:f q
    ·exact .inl (e'▸hf q (by simp[hq]) hfq)
    ·exact .inr ⟨q,List.mem_filter.mpr ⟨hq,hfq⟩,e'⟩
  ·exact ih
theorem Ord.all {ops:Array Oper}{L:Array Bool}(hs:L.size=ops.size)(hr:Region.ready .any ops L=[]):∀ {l:List bt},(∀p∈l,ops[p.i]? =some p.o)→Ord L l→∀p∈l,L.getD p.i false=true
 |[],_,_,p,hp=>by cases hp
 |q::l,ho,⟨h1,h2⟩,p,hp=>by
  have ih:=Ord.all hs hr (fun p hp=>ho p (by simp[hp])) h2
  rcases List.mem_cons.mp hp with rfl|hp
  ·cases hL:L.getD p.i false
   ·have:p.i∈Region.ready .any ops L:=(pM hs).mpr ⟨p.o,ho p (by simp),hL,fun e he hb=>by
     rcases h1 e he hb with h|⟨q,hq,e'⟩
     ·exact h
     ·rw[←e'];exact ih q hq⟩
    rw[hr] at this;cases this
   ·rfl
  ·exact ih p hp
section
variable {P:Program}{X:Ctx}(hX:dC P X){ops:Array Oper}(hdraw:qP ops=true){N:Nat}(hN:N≤1000000000)(hdst:ops.toList.all (mj N)=true)
 {ι₀:Inj} {s₀:St} {w₀:World} {done:Nat} {pend:List bt} {fr:Fr} {s:St} {L:Array Bool} {ι:Inj} {a:Act} {w:World} {Q:Exit→Act→World→Prop} {K:Act→World→Prop}
theorem vK {fr fr':Fr}{x:Operand}(h:∀t,x= .tmp t→fr'.t.get t=fr.t.get t):fr'.opd x=fr.opd x:=by
 cases x with
 |tmp t=>simp[Fr.opd,h t rfl]
 | _=>rfl
theorem sD {o:Oper}{x:Operand}{t:Nat}(hx:x∈o.op.operands)(ht:x= .tmp t):t∈o.looksAt ops:=by
 subst ht
 exact List.mem_append_left _ (List.mem_filterMap.2 ⟨.tmp t,by simpa using hx,rfl⟩)
theorem mC {fr fr':Fr}{o:Oper}(h:∀t∈o.looksAt ops,fr'.t.get t=fr.t.get t):bI ops fr' o=bI ops fr o:=by
 unfold bI
 cases hg:o.guard with
 |none=>rfl
 |some jw=>
  obtain⟨j,want⟩:=jw
  simp only
  unfold va
  cases hj:ops.toList[j]? with
  |none=>rfl
  |some g=>
   simp only
   cases hd:g.dst with
   |none=>rfl
   |some d=>
    simp only
    have hj':ops[j]? =some g:=by simpa using hj
    unfold zH
    rw[h d (by simp[Oper.looksAt,hg,hj',hd])]
include hdraw in
theorem DI.clear (h:DI P X ops N ι₀ s₀ w₀ done pend fr s L ι a w){j:Nat}{o:Oper}(hj:ops[j]? =some o)(hr:∀e∈o.after,onB e=true→L.getD e.on false=true):∀t∈o.looksAt ops,¬Hid L pend t:=by
 rintro t ht ⟨q,hq,hL,hd⟩
 have hpo:=h.po q hq
 have hap:=iN hdraw hpo.op hj hpo.na hd
 by_cases e:q.i=j
 ·exact hap.1 e ht
 ·obtain⟨e',he',hb,hon⟩:=nO.mp ((hap.2 e).2 ht)
  have:=hr e' he' hb
  rw[hon,hL] at this;cases this
include hX hdraw hdst in
theorem DI.late {ro:Option Nat}(h:DI P X ops N ι₀ s₀ w₀ done pend fr s L ι a w){p:bt}(hp:p∈pend)(hL:L.getD p.i false=false)(hr:∀e∈p.o.after,onB e=true→L.getD e.on false=true)
  (hk:∀ι' a' w',DI P X ops N ι₀ s₀ w₀ done pend fr s (L.setIfInBounds p.i true) ι' a' w'→K a' w'):wpOpIn (FE P ro) 0 P ops Q p.i K a w:=by
 have hpo:=h.po p hp
 have hlt:p.i<L.size:=by rw[h.size];exact h.rng _ (h.pdone p hp)
 have hclr:=h.clear hdraw hpo.op hr
 have hdo:mj N p.o=true:=List.all_eq_true.mp hdst p.o (by rw[Array.mem_toList_iff];exact Array.mem_of_getElem? hpo.op)
 have he:∀x∈p.o.op.operands,VR ι (fr.opd x) (a.eval x):=fun x hx=>h.frame.opd x fun t ht=>hclr t (sD hx ht)
 have mono:∀i,L.getD i false=true→(L.setIfInBounds p.i true).getD i false=true:=fun i hi=>by rw[iM hlt,hi];rfl
 have unl:∀i,(L.setIfInBounds p.i true).getD i false=false→L.getD i false=false∧p.i≠i:=fun i hi=>by
  rw[iM hlt] at hi
  simpa using hi
 have fin:∀ {κ:Inj} {cv:Value} {w':World},ι.le κ→VR κ p.v cv→HR P κ s w'→Ext ι₀ s₀ w₀ κ s w'→(∀q∈pend,∀b ab,q.laid=some (b,ab)→q.i≠p.i→L.getD q.i false=false→κ b=none)→K (a.put p.o.dst cv) w':=by
  intro κ cv w' hle hv hH hE hout
  refine hk κ _ w' ⟨by simp[h.size],h.rng,fun i hi=>?_,fun i hi=>(h.cov i hi).imp (mono i) id,h.pdone,h.po,fun q hq b ab hl hq'=>hout q hq b ab hl (fun e=>(unl _ hq').2 e.symm) (unl _ hq').1,h.uniq,h.one,h.ord.mono mono,⟨fun k u hh hu=>?_,?_,?_⟩,hH,hE⟩
  ·rw[iM hlt] at hi
   rcases Bool.or_eq_true_iff.mp hi with hi|hi
   ·exact h.sub i hi
   ·have:p.i=i:=by simpa using hi
    rw[←this];exact h.pdone p hp
  ·by_cases e:p.o.dst=some k
   ·have hkN:=mc hdo e
    have:=hpo.slot k u e hu
    subst this
    rw[e,oW]
    exact⟨cv,by simp only;rw[Array.getElem?_setIfInBounds_self_of_lt (Nat.lt_of_lt_of_le hkN h.frame.n)],hv⟩
   ·have hnh:¬Hid L pend k:=fun⟨q,hq,hql,hqd⟩=>by
     refine hh ⟨q,hq,?_,hqd⟩
     rw[iM hlt,hql]
     simp only[Bool.false_or,decide_eq_false_iff_not]
     intro e'
     have:=h.one p hp q hq e'
     subst this
     exact e hqd
    obtain⟨c,h1,h2⟩:=h.frame.t k u hnh hu
    refine⟨c,?_,h2.mono hle⟩
    cases hd:p.o.dst with
    |none=>exact h1
    |some d=>
     rw[oW]
     simp only
     rw[Array.getElem?_setIfInBounds_ne (fun e'=>e (by rw[hd,e']))]
     exact h1
  ·have:=h.frame.d.mono hle
   cases p.o.dst<;>exact this
  ·have:=h.frame.n
   cases p.o.dst
   ·exact this
   ·simpa[oW] using this
 have hsem:p.o.semAt (FE P ro).round a.eval=execOp a.eval p.o:=Oper.semAt_eq _ _ _ fun c hc=>by
  have:=hpo.na
  simp[mi,hc] at this
 unfold wpOpIn
 simp only[hpo.op]
 cases hl:p.laid with
 |none=>
  rcases hpo.plain hl with⟨hw,hop⟩|⟨hw,hv⟩
  ·have hw:=iq hw h.frame hclr
   simp only[hw,if_true]
   refine⟨vU hpo.na,?_⟩
   rw[hsem]
   have:∃cv,(execOp a.eval p.o).run P w= .ok (.value cv) w∧VR ι p.v cv:=by
    rcases hop with hop|hop
    ·exact dc hX hop h.heap he
    ·exact dc hX hop h.heap he
   obtain⟨cv,h1,h2⟩:=this
   rw[h1]
   exact fin ι.le_refl h2 h.heap h.ext fun q hq b ab hl _ hql=>h.out q hq b ab hl hql
  ·have hw:=iq hw h.frame hclr
   simp only[hw,Bool.false_eq_true,if_false]
   exact⟨vU hpo.na,fin ι.le_refl (by rw[hv];simp[undef,VR,VRs]) h.heap h.ext fun q hq b ab hl _ hql=>h.out q hq b ab hl hql⟩
 |some bx=>
  obtain⟨b,ab⟩:=bx
  obtain⟨hw,hg,hb0,hbs,_,f,hv,hlay⟩:=hpo.laid b ab hl
  have hw:=iq hw h.frame hclr
  simp only[hw,if_true]
  refine⟨vU hpo.na,?_⟩
  rw[hsem]
  obtain⟨o,z,cv,w',h1,h2,h5,h3,h4⟩:=hlay ι w a he
  rw[h1]
  have hb:=h.out p hp b ab hl hL
  refine fin (Inj.yk hb) ?_ (h.heap.lay z hb hbs hg h2 h3) (h.ext.lay z hb hb0 h2 h5) fun q hq b' ab' hl' hne hql=>?_
  ·rw[hv];exact h4 _ _ (Inj.dr _ _ _)
  ·have hbb:b'≠b:=fun e=>by subst e;exact hne (h.uniq q hq p hp b' ab' ab hl' hl)
   unfold Inj.at
   rw[if_neg hbb]
   exact h.out q hq b' ab' hl' hql
end
end Go.Am
end
section
namespace Go.Am
theorem Ord.done {L:Array Bool}{done:Nat}(hs:∀i,L.getD i false=true→bit done i=true):∀ {l:List bt},(∀p∈l,bit done p.i=true)→Ord L l→∀q∈l,∀e∈q.o.after,onB e=true→bit done e.on=true
 |[],_,_,q,hq=>by cases hq
 |p::l,hd,⟨h1,h2⟩,q,hq=>by
  intro e he hb
  rcases List.mem_cons.mp hq with rfl|hq
  ·rcases h1 e he hb with h|⟨q',hq',e'⟩
   ·exact hs _ h
   ·rw[←e'];exact hd q' (by simp[hq'])
  ·exact Ord.done hs (fun p hp=>hd p (by simp[hp])) h2 q hq e he hb
def Fb (P:Program)(X:Ctx)(call:dh):Prop:=
 ∀ (ro:Option Nat) (N:Nat) (ops:Array Oper) (fr:Fr) (s:St) (r:EX×Fr×St),N≤1000000000→ops.toList.all (mj N)=true→(ro=none∨ops.toList.all gv=true)→qP ops=true→nX X call ops (dT ops) (ops.size+1) 0 [] fr s=some r→
  ∀ (ι₀:Inj) (s₀:St) (w₀:World) (ι:Inj) (a:Act) (w:World),FRN N mh ι fr a→HR P ι s w→Ext ι₀ s₀ w₀ ι s w→wpAnyIn (FE P ro) 0 P .any ops (lG P N ι₀ s₀ w₀ r) ops.size (Array.replicate ops.size false) a w
section
variable {P:Program}{X:Ctx}(hX:dC P X){ops:Array Oper}(hdraw:qP ops=true){N:Nat}(hN:N≤1000000000)(hdst:ops.toList.all (mj N)=true)
 {ι₀:Inj} {s₀:St} {w₀:World} {done:Nat} {pend:List bt} {fr:Fr} {s:St} {L:Array Bool} {ι:Inj} {a:Act} {w:World} {Q:Exit→Act→World→Prop} {K:Act→World→Prop}
theorem Fr.LU {fr:Fr}{dst:Option Nat}{v:AV}{k:Nat}(hd:∀d,dst=some d→d≤1000000000)(hk:dst≠some k):(fr.put dst v).t.get k=fr.t.get k:=by
 unfold Fr.put
 cases dst with
 |none=>rfl
 |some d=>exact Tr.qu (hd d rfl) fun e=>hk (by rw[e])
theorem Fr.rI {fr:Fr}{dst:Option Nat}{v u:AV}{d:Nat}(hd:dst=some d)(h:(fr.put dst v).t.get d=some u):u=v:=by
 subst hd
 rcases Tr.dB h with⟨_,e⟩|⟨e,_⟩
 ·exact e.symm
 ·exact absurd rfl e
include hdraw hN hdst in
theorem DI.pP (h:DI P X ops N ι₀ s₀ w₀ done pend fr s L ι a w){i:Nat}{o:Oper}(hi:ops[i]? =some o)(hnd:bit done i=false)(hna:mi o=false)(hra:∀e∈o.after,onB e=true→bit done e.on=true)
  {v:AV}{lay:Option (Nat×AB)}{s':St}(hle:s.le s')(hnx:s.nx≤s'.nx)(hH:HR P ι s' w)(hE:Ext ι₀ s₀ w₀ ι s' w)
  (hnew:(∀t∈o.looksAt ops,(fr.put o.dst v).t.get t=fr.t.get t)→PO P X ops s₀.nx ⟨(fr.put o.dst v).t,fr.d⟩ s' ⟨i,o,v,lay⟩)
  (hout:∀b ab,lay=some (b,ab)→ι b=none)(huniq:∀b x,lay=some (b,x)→∀q∈pend,∀y,q.laid≠some (b,y)):
  DI P X ops N ι₀ s₀ w₀ (Nat.lor done (Nat.pow 2 i)) (⟨i,o,v,lay⟩::pend) ⟨(fr.put o.dst v).t,fr.d⟩ s' L ι a w:=by
 have hdo:mj N o=true:=List.all_eq_true.mp hdst o (by rw[Array.mem_toList_iff];exact Array.mem_of_getElem? hi)
 have hdb:∀d,o.dst=some d→d≤1000000000:=fun d hd=>Nat.le_trans (Nat.le_of_lt (mc hdo hd)) hN
 have hdone:=Ord.done h.sub h.pdone h.ord
 have hne:∀q∈pend,q.i≠i:=fun q hq e=>by
  have:=h.pdone q hq
  rw[e,hnd] at this;cases this
 have hL:L.getD i false=false:=by
  cases hl:L.getD i false
  ·rfl
  ·have:=h.sub i hl
   rw[hnd] at this;cases this
 have same:∀k,o.dst≠some k→(fr.put o.dst v).t.get k=fr.t.get k:=fun k hk=>Fr.LU hdb hk
 have lq:∀q∈pend,∀t∈q.o.looksAt ops,(fr.put o.dst v).t.get t=fr.t.get t:=fun q hq t ht=>same t fun e=>by
  have hap:=(iN hdraw hi (h.po q hq).op hna e).2 (fun e=>hne q hq e.symm)
  obtain⟨e',he',hb,hon⟩:=nO.mp (hap.2 ht)
  have:=hdone q hq e' he' hb
  rw[hon,hnd] at this;cases this
 have oq:∀q∈pend,∀x∈q.o.op.operands,(⟨(fr.put o.dst v).t,fr.d⟩:Fr).opd x=fr.opd x:=fun q hq x hx=>vK fun t ht=>lq q hq t (sD hx ht)
 refine⟨h.size,fun j hj=>?_,fun j hj=>?_,fun j hj=>?_,fun q hq=>?_,fun q hq=>?_,fun q hq b ab hl hql=>?_,fun q hq q' hq' b x y hl hl'=>?_,fun q hq q' hq' e=>?_,?_,⟨fun k u hk hu=>?_,h.frame.d,h.frame.n⟩,hH,hE⟩
 ·rw[pw] at hj
  rcases Bool.or_eq_true_iff.mp hj with hj|hj
  ·exact h.rng j hj
  ·have:i=j:=by simpa using hj
   subst this
   exact(Array.getElem?_eq_some_iff.mp hi).1
 ·rw[pw,h.sub j hj];rfl
 ·rw[pw] at hj
  rcases Bool.or_eq_true_iff.mp hj with hj|hj
  ·exact(h.cov j hj).imp id fun⟨p,hp,e⟩=>⟨p,by simp[hp],e⟩
  ·have:i=j:=by simpa using hj
   exact .inr ⟨_,List.mem_cons_self,this⟩
 ·rw[pw]
  rcases List.mem_cons.mp hq with rfl|hq
  ·simp
  ·rw[h.pdone q hq];rfl
 ·rcases List.mem_cons.mp hq with rfl|hq
  ·refine hnew fun t ht=>same t fun e=>?_
   exact(iN hdraw hi hi hna e).1 rfl ht
  ·have hp:=h.po q hq
   refine⟨hp.op,hp.na,fun d u hd hu=>?_,fun hl=>?_,fun b ab hl=>?_⟩
   ·refine hp.slot d u hd ?_
    rw[←same d fun e=>?_]
    ·exact hu
    ·exact((iN hdraw hp.op hi hp.na hd).2 (hne q hq)).1 e
   ·rw[mC (fr:=fr) (fr':=⟨(fr.put o.dst v).t,fr.d⟩) (lq q hq),lD (oq q hq)]
    refine(hp.plain hl).imp (fun⟨g1,g2⟩=>⟨g1,?_⟩) id
    rcases g2 with g2|g2
    ·exact .inl (xX hle hp.na g2 (by simp))
    ·exact .inr (xX hle hp.na g2 (by simp))
   ·obtain⟨g1,g2,g3,g4,g5,f,g6,g7⟩:=hp.laid b ab hl
    refine⟨by rw[mC (fr:=fr) (fr':=⟨(fr.put o.dst v).t,fr.d⟩) (lq q hq)];exact g1,hle.h _ _ g2,g3,Nat.lt_of_lt_of_le g4 hnx,g5,f,g6,fun ι w a he=>g7 ι w a fun x hx=>?_⟩
    rw[←oq q hq x hx];exact he x hx
 ·rcases List.mem_cons.mp hq with rfl|hq
  ·exact hout b ab hl
  ·exact h.out q hq b ab hl hql
 ·rcases List.mem_cons.mp hq with rfl|hq<;>rcases List.mem_cons.mp hq' with rfl|hq'
  ·rfl
  ·exact absurd hl' (huniq b x hl q' hq' y)
  ·exact absurd hl (huniq b y hl' q hq x)
  ·exact h.uniq q hq q' hq' b x y hl hl'
 ·rcases List.mem_cons.mp hq with rfl|hq<;>rcases List.mem_cons.mp hq' with rfl|hq'
  ·rfl
  ·exact absurd e.symm (hne q' hq')
  ·exact absurd e (hne q hq)
  ·exact h.one q hq q' hq' e
 ·exact⟨fun e he hb=>h.cov _ (hra e he hb),h.ord⟩
 ·have hkd:o.dst≠some k:=fun e=>hk ⟨_,List.mem_cons_self,hL,e⟩
  have hu:(fr.put o.dst v).t.get k=some u:=hu
  rw[same k hkd] at hu
  exact h.frame.t k u (fun⟨p,hp,h1,h2⟩=>hk ⟨p,by simp[hp],h1,h2⟩) hu
include hX hdraw hN hdst in
theorem DI.take (h:DI P X ops N ι₀ s₀ w₀ done pend fr s L ι a w){i:Nat}{o:Oper}(hi:ops[i]? =some o)(hm:rS done i o=true){p:bt}{fr':Fr}{s':St}(ht:jX X i o fr s (bI ops fr o)=some (p,fr',s')):
  p.i=i∧DI P X ops N ι₀ s₀ w₀ (Nat.lor done (Nat.pow 2 i)) (p::pend) fr' s' L ι a w:=by
 simp only[rS,Bool.and_eq_true,Bool.not_eq_true'] at hm
 obtain⟨⟨hnd,hna⟩,hra⟩:=hm
 have hra:=sI.mp hra
 have hxs:∀ {v:AV} {x:Operand},(∀t∈o.looksAt ops,(fr.put o.dst v).t.get t=fr.t.get t)→x∈o.op.operands→(⟨(fr.put o.dst v).t,fr.d⟩:Fr).opd x=fr.opd x:=fun hs hx=>vK fun t ht=>hs t (sD hx ht)
 have hws:∀ {v:AV},(∀t∈o.looksAt ops,(fr.put o.dst v).t.get t=fr.t.get t)→bI ops ⟨(fr.put o.dst v).t,fr.d⟩ o=bI ops fr o:=fun hs=>mC hs
 unfold jX at ht
 split at ht
 ·cases ht
 ·rename_i hw
  simp only[ki] at ht
  cases ht
  refine⟨rfl,h.pP hdraw hN hdst hi hnd hna hra ⟨fun _ _ h=>h,rfl⟩ (Nat.le_refl _) h.heap h.ext (fun hs=>⟨hi,hna,fun d u hd hu=>Fr.rI hd hu,fun _=> .inr ⟨?_,rfl⟩,by simp⟩) (by simp) (by simp)⟩
  rw[hws hs];exact hw
 ·rename_i hw
  unfold A4 at ht
  split at ht
  ·rename_i v hop
   simp only[ki] at ht
   cases ht
   refine⟨rfl,h.pP hdraw hN hdst hi hnd hna hra ⟨fun _ _ h=>h,rfl⟩ (Nat.le_refl _) h.heap h.ext (fun hs=>⟨hi,hna,fun d u hd hu=>Fr.rI hd hu,fun _=> .inl ⟨?_, .inl ?_⟩,by simp⟩) (by simp) (by simp)⟩
   ·rw[hws hs];exact hw
   ·simp only
    rw[lD (fun x hx=>hxs hs hx)];exact hop
  ·rename_i v hop
   simp only[ki,km] at ht
   cases ht
   refine⟨rfl,h.pP hdraw hN hdst hi hnd hna hra ⟨fun _ _ h=>h,rfl⟩ (Nat.le_refl _) h.heap h.ext (fun hs=>⟨hi,hna,fun d u hd hu=>Fr.rI hd hu,fun _=> .inl ⟨?_, .inr ?_⟩,by simp⟩) (by simp) (by simp)⟩
   ·rw[hws hs];exact hw
   ·simp only
    rw[lD (fun x hx=>hxs hs hx)];exact hop
  ·rename_i v s1 hop
   split at ht
   ·rename_i hfree
    simp only[oF,km,ki] at ht
    split at ht
    ·rename_i ab' hg
     cases ht
     obtain⟨hl,ab,f,h1,h2⟩:=Fx (P:=P) hX hop hna
     have he:=h1 s
     rw[hop] at he
     simp only[Option.some.injEq,OR.val.injEq] at he
     obtain⟨rfl,rfl⟩:=he
     have hab:ab=ab':=by
      rcases Tr.dB hg with⟨_,e⟩|⟨e,_⟩
      ·exact e
      ·exact absurd rfl e
     subst hab
     have hle:s.le (s.new ab).2:=⟨fun b x hb=>by
      have hne:b≠s.nx:=fun e=>by rw[e,hfree] at hb;cases hb
      show(s.h.put s.nx ab).get b=some x
      rw[Tr.cT,if_neg hne];exact hb,rfl⟩
     refine⟨rfl,h.pP hdraw hN hdst hi hnd hna hra hle (Nat.le_succ _) (h.heap.ahead ab) (h.ext.ahead h.heap ab) (fun hs=>⟨hi,hna,fun d u hd hu=>Fr.rI hd hu,by simp,fun b x hb=>?_⟩) (fun b x hb=>?_) (fun b x hb q hq y hy=>?_)⟩
     ·simp only[Option.some.injEq,Prod.mk.injEq] at hb
      obtain⟨rfl,rfl⟩:=hb
      refine⟨by rw[hws hs];exact hw,hg,h.ext.nx,Nat.lt_succ_self _,hl,f,rfl,fun ι w a he=>h2 ι w a fun x hx=>?_⟩
      rw[←hxs hs hx];exact he x hx
     ·simp only[Option.some.injEq,Prod.mk.injEq] at hb
      obtain⟨rfl,rfl⟩:=hb
      exact h.heap.fresh
     ·simp only[Option.some.injEq,Prod.mk.injEq] at hb
      obtain⟨rfl,rfl⟩:=hb
      have:=((h.po q hq).laid _ _ hy).2.2.2.1
      omega
    ·cases ht
   ·cases ht
  ·cases ht
include hX hdraw hN hdst in
theorem nY {r:EX×Fr×St}{k:Nat→List bt→Fr→St→Option (EX×Fr×St)}:∀ (l:List (Nat×Oper)),(∀io∈l,ops[io.1]? =some io.2)→∀ (done:Nat) (pend:List bt) (fr:Fr) (s:St),kF X ops k l done pend fr s=some r→
  ∃done' pend' fr' s',k done' pend' fr' s'=some r∧∀L ι a w,DI P X ops N ι₀ s₀ w₀ done pend fr s L ι a w→DI P X ops N ι₀ s₀ w₀ done' pend' fr' s' L ι a w
 |[],_,done,pend,fr,s,h=>⟨done,pend,fr,s,h,fun _ _ _ _ h=>h⟩
 |io::l,hl,done,pend,fr,s,h=>by
  unfold kF at h
  split at h
  ·exact nY l (fun io h=>hl io (by simp[h])) done pend fr s h
  ·rename_i hm
   unfold yU at h
   split at h
   ·rename_i p fr' s' ht
    simp only[pC] at h
    obtain⟨d2,p2,f2,s2,g1,g2⟩:=nY l (fun io h=>hl io (by simp[h])) _ _ _ _ h
    exact⟨d2,p2,f2,s2,g1,fun L ι a w hd=>g2 L ι a w (hd.take hX hdraw hN hdst (hl io (by simp)) hm ht).2⟩
   ·cases h
include hX hdraw hN hdst in
theorem DI.act {ro:Option Nat}(hq:ro=none∨ops.toList.all gv=true){call:dh}(hC:ob P call)(h:DI P X ops N ι₀ s₀ w₀ done pend fr s L ι a w){i:Nat}{o:Oper}(hi:ops[i]? =some o)(hnd:bit done i=false)(hr:∀e∈o.after,onB e=true→L.getD e.on false=true)
  {fr1:Fr}{s1:St}(h1:ed X call ops o fr s=some (.go fr1 s1))(hst:(pend.filter fun p=> !bP o p.i).all (mT X ops fr1 s1)=true)
  (hk:∀ι' a' w',DI P X ops N ι₀ s₀ w₀ (Nat.lor done (Nat.pow 2 i)) (pend.filter fun p=> !bP o p.i) fr1 s1 (L.setIfInBounds i true) ι' a' w'→K a' w'):wpOpIn (FE P ro) 0 P ops Q i K a w:=by
 have hlt:i<L.size:=by rw[h.size];exact(Array.getElem?_eq_some_iff.mp hi).1
 have hdo:mj N o=true:=List.all_eq_true.mp hdst o (by rw[Array.mem_toList_iff];exact Array.mem_of_getElem? hi)
 have hdone:=Ord.done h.sub h.pdone h.ord
 have hne:∀q∈pend,q.i≠i:=fun q hq e=>by
  have:=h.pdone q hq
  rw[e,hnd] at this;cases this
 have mono:∀j,L.getD j false=true→(L.setIfInBounds i true).getD j false=true:=fun j hj=>by rw[iM hlt,hj];rfl
 have unl:∀j,(L.setIfInBounds i true).getD j false=false→L.getD j false=false∧i≠j:=fun j hj=>by
  rw[iM hlt] at hj
  simpa using hj
 have waited:∀q∈pend,bP o q.i=true→L.getD q.i false=true:=fun q _ hw=>by
  obtain⟨e,he,hb,hon⟩:=nO.mp hw
  rw[←hon];exact hr e he hb
 have hqo:ro=none∨gv o=true:=hq.imp id fun hq=>List.all_eq_true.mp hq o (by rw[Array.mem_toList_iff];exact Array.mem_of_getElem? hi)
 refine pU hX hC hi h1 h.frame h.heap (h.clear hdraw hi hr) hdo hqo (fun κ a' w' fr' s' e hf hH hE hs=>?_) (fun κ a' w' fr' s' v cv e=>by cases e)
 cases e
 have hs:=hs hN
 refine hk κ a' w' ⟨by simp[h.size],fun j hj=>?_,fun j hj=>?_,fun j hj=>?_,fun q hq=>?_,fun q hq=>?_,fun q hq b ab hl hql=>?_,fun q hq q' hq'=>h.uniq q (List.mem_filter.mp hq).1 q' (List.mem_filter.mp hq').1,fun q hq q' hq'=>h.one q (List.mem_filter.mp hq).1 q' (List.mem_filter.mp hq').1,
  Ord.filter (fun p hp hf=>mono _ (waited p hp (by simpa using hf))) (h.ord.mono mono),⟨fun k u hh hu=>?_,hf.d,hf.n⟩,hH,h.ext.trans hE⟩
 ·rw[pw] at hj
  rcases Bool.or_eq_true_iff.mp hj with hj|hj
  ·exact h.rng j hj
  ·have:i=j:=by simpa using hj
   subst this
   rw[←h.size];exact hlt
 ·rw[iM hlt] at hj
  rw[pw]
  rcases Bool.or_eq_true_iff.mp hj with hj|hj
  ·rw[h.sub j hj];rfl
  ·rw[hj];simp
 ·rw[pw] at hj
  rcases Bool.or_eq_true_iff.mp hj with hj|hj
  ·rcases h.cov j hj with hj|⟨q,hq,e⟩
   ·exact .inl (mono j hj)
   ·cases hw:bP o q.i
    ·exact .inr ⟨q,List.mem_filter.mpr ⟨hq,by simp[hw]⟩,e⟩
    ·exact .inl (mono j (e▸waited q hq hw))
  ·exact .inl (by rw[iM hlt,hj];simp)
 ·rw[pw,h.pdone q (List.mem_filter.mp hq).1];rfl
 ·have hqs:=List.all_eq_true.mp hst q hq
  have hq:=(List.mem_filter.mp hq).1
  have hp:=h.po q hq
  refine⟨hp.op,hp.na,fun d u hd hu=>?_,fun hl=>?_,fun b ab hl=>?_⟩
  ·refine hp.slot d u hd ?_
   rw[←hs d fun e=>((iN hdraw hp.op hi hp.na hd).2 (hne q hq)).1 e]
   exact hu
  ·unfold mT at hqs
   simp only[hl] at hqs
   split at hqs
   ·rename_i hw
    refine .inl ⟨hw,?_⟩
    unfold aA at hqs
    split at hqs
    ·rename_i u hu;rw[AV.gW hqs] at hu;exact .inl hu
    ·rename_i u hu;rw[AV.gW hqs] at hu;exact .inr hu
    ·cases hqs
   ·rename_i hw
    refine .inr ⟨hw,?_⟩
    split at hqs
    ·rename_i hv;exact hv
    ·cases hqs
   ·cases hqs
  ·obtain⟨g1,g2,g3,g4,g5,f,g6,g7⟩:=hp.laid b ab hl
   have lq:∀t∈q.o.looksAt ops,fr1.t.get t=fr.t.get t:=fun t ht=>hs t fun e=>by
    obtain⟨e',he',hb,hon⟩:=nO.mp (zW hdraw hp.op hi g5 e (hne q hq) ht)
    have:=hdone q hq e' he' hb
    rw[hon,hnd] at this;cases this
   refine⟨by rw[mC lq];exact g1,?_,g3,Nat.lt_of_lt_of_le g4 hE.nx,g5,f,g6,fun ι w a he=>g7 ι w a fun x hx=>?_⟩
   ·unfold mT pB at hqs
    simp only[hl] at hqs
    split at hqs
    ·rename_i y hy;rw[Fu hqs];exact hy
    ·cases hqs
   ·have:=vK (fr:=fr) (fr':=fr1) (x:=x) fun t ht=>lq t (sD hx ht)
    rw[←this];exact he x hx
 ·have hqp:=(List.mem_filter.mp hq).1
  rw[hE.old b ((h.po q hqp).laid b ab hl).2.2.2.1]
  exact h.out q hqp b ab hl (unl _ hql).1
 ·refine hf.t k u (fun⟨q,hq,hql,hqd⟩=>hh ⟨q,List.mem_filter.mpr ⟨hq,?_⟩,?_,hqd⟩) hu
  ·cases hw:bP o q.i
   ·rfl
   ·rw[waited q hq hw] at hql;cases hql
  ·rw[iM hlt,hql]
   simp only[Bool.false_or,decide_eq_false_iff_not]
   exact fun e=>hne q hq e.symm
include hX hdraw hdst in
theorem DI.JJ {ro:Option Nat}(hq:ro=none∨ops.toList.all gv=true){call:dh}(hC:ob P call)(h:DI P X ops N ι₀ s₀ w₀ done pend fr s L ι a w){i:Nat}{o:Oper}(hi:ops[i]? =some o)(hr:∀e∈o.after,onB e=true→L.getD e.on false=true)
  {v:AV}{fr1:Fr}{s1:St}(h1:ed X call ops o fr s=some (.pan v fr1 s1)):wpOpIn (FE P ro) 0 P ops (lG P N ι₀ s₀ w₀ (.pan v,⟨.e,fr1.d⟩,s1)) i K a w:=by
 have hdo:mj N o=true:=List.all_eq_true.mp hdst o (by rw[Array.mem_toList_iff];exact Array.mem_of_getElem? hi)
 have hqo:ro=none∨gv o=true:=hq.imp id fun hq=>List.all_eq_true.mp hq o (by rw[Array.mem_toList_iff];exact Array.mem_of_getElem? hi)
 refine pU hX hC hi h1 h.frame h.heap (h.clear hdraw hi hr) hdo hqo (fun κ a' w' fr' s' e=>by cases e) (fun κ a' w' fr' s' v cv e hf hH hE hv=>?_)
 cases e
 exact⟨κ,⟨fun k u _ hu=>(Tr.PG hu).elim,hf.d,hf.n⟩,hH,h.ext.trans hE,cv,rfl,hv⟩
def cnt (L:Array Bool):Nat:=L.toList.countP (! ·)
theorem countP_set:∀ {l:List Bool} {i:Nat},l[i]? =some false→(l.set i true).countP (! ·)+1=l.countP (! ·)
 |[],i,h=>by simp at h
 |x::l,0,h=>by
  simp at h
  subst h
  simp
 |x::l,i+1,h=>by
  have:=countP_set (l:=l) (i:=i) (by simpa using h)
  simp only[List.set_cons_succ,List.countP_cons]
  omega
theorem JK {L:Array Bool}{i:Nat}(hi:i<L.size)(h:L.getD i false=false):cnt (L.setIfInBounds i true)+1=cnt L:=by
 obtain⟨l⟩:=L
 have hi:i<l.length:=hi
 have h:l[i]? =some false:=by
  simp[List.getElem?_eq_getElem hi] at h
  rw[List.getElem?_eq_getElem hi,h]
 simp only[cnt,List.setIfInBounds_toArray]
 exact countP_set h
theorem I4 {L:Array Bool}(h:cnt L=0)(i:Nat)(hi:i<L.size):L.getD i false=true:=by
 have h:=List.countP_eq_zero.mp h
 have:=h L[i] (by simp)
 simp[hi] at this ⊢
 exact this
include hX hdraw hN hdst in
theorem FP {ro:Option Nat}(hq:ro=none∨ops.toList.all gv=true){call:dh}(hC:ob P call){r:EX×Fr×St}:∀ (f:Nat) (done:Nat) (pend:List bt) (fr:Fr) (s:St),nX X call ops (dT ops) f done pend fr s=some r→
  ∀ (fuel:Nat) (L:Array Bool) (ι:Inj) (a:Act) (w:World),cnt L≤fuel→DI P X ops N ι₀ s₀ w₀ done pend fr s L ι a w→wpAnyIn (FE P ro) 0 P .any ops (lG P N ι₀ s₀ w₀ r) fuel L a w:=by
 intro f
 induction f with
 |zero=>intro done pend fr s h;cases h
 |succ f ih=>
  intro done pend fr s h fuel L ι a w hc hd
  obtain⟨done,pend,fr,s,hact,hstep⟩:=nY (ι₀:=ι₀) (s₀:=s₀) (w₀:=w₀) hX hdraw hN hdst (dT ops) (fun io hio=>gq.mp hio) _ _ _ _ h
  replace hd:=hstep L ι a w hd
  clear hstep h
  have mem:∀io,io∈gA (dT ops) done↔ops[io.1]? =some io.2∧bit done io.1=false∧∀e∈io.2.after,onB e=true→bit done e.on=true:=fun io=>by
   unfold gA
   rw[List.mem_filter,gq]
   simp only[Bool.and_eq_true,Bool.not_eq_true',sI]
  have fin:∀ {L ι a w},DI P X ops N ι₀ s₀ w₀ done pend fr s L ι a w→Region.ready .any ops L=[]→lG P N ι₀ s₀ w₀ r .normal a w:=fun{L ι a w} hd hr=>by
   have hall:=Ord.all hd.size hr (fun p hp=>(hd.po p hp).op) hd.ord
   have hnil:gA (dT ops) done=[]:=by
    refine List.eq_nil_iff_forall_not_mem.mpr fun io hio=>?_
    obtain⟨h1,h2,h3⟩:=(mem io).mp hio
    have:io.1∈Region.ready .any ops L:=(pM hd.size).mpr ⟨io.2,h1,?_,fun e he hb=>?_⟩
    ·rw[hr] at this;cases this
    ·cases hl:L.getD io.1 false
     ·rfl
     ·have:=hd.sub _ hl
      rw[h2] at this;cases this
    ·rcases hd.cov _ (h3 e he hb) with h|⟨p,hp,e'⟩
     ·exact h
     ·rw[←e'];exact hall p hp
   rw[hnil] at hact
   cases hact
   exact⟨ι,⟨fun k v _ hv=>hd.frame.t k v (fun⟨p,hp,h1,_⟩=>by rw[hall p hp] at h1;cases h1) hv,hd.frame.d,hd.frame.n⟩,hd.heap,hd.ext,trivial⟩
  revert L ι a w
  induction fuel with
  |zero=>
   intro L ι a w hc hd
   have hr:Region.ready .any ops L=[]:=by
    refine List.eq_nil_iff_forall_not_mem.mpr fun i hi=>?_
    obtain⟨o,h1,h2,_⟩:=(pM hd.size).mp hi
    have hlt:i<L.size:=by rw[hd.size];exact(Array.getElem?_eq_some_iff.mp h1).1
    rw[I4 (Nat.le_zero.mp hc) i hlt] at h2;cases h2
   exact⟨hr,fin hd hr⟩
  |succ fuel ihf=>
   intro L ι a w hc hd
   refine⟨fin hd,fun i hi=>?_⟩
   obtain⟨o,h1,h2,h3⟩:=(pM hd.size).mp hi
   have hlt:i<L.size:=by rw[hd.size];exact(Array.getElem?_eq_some_iff.mp h1).1
   have hcs:=JK hlt h2
   cases hb:bit done i
   ·
    have hio:(i,o)∈gA (dT ops) done:=(mem (i,o)).mpr ⟨h1,hb,fun e he hbe=>hd.sub _ (h3 e he hbe)⟩
    unfold Bt at hact
    split at hact
    ·rename_i e;rw[e] at hio;cases hio
    ·rename_i io e
     rw[e] at hio
     have hio:(i,o)=io:=by simpa using hio
     subst hio
     split at hact
     ·cases hact
     ·unfold DH at hact
      split at hact
      ·rename_i fr1 s1 hop
       split at hact
       ·rename_i hst
        simp only[pC] at hact
        exact hd.act hX hdraw hN hdst hq hC h1 hb h3 hop hst fun ι' a' w' hd'=>ih _ _ _ _ hact fuel _ ι' a' w' (by omega) hd'
       ·cases hact
      ·rename_i v fr1 s1 hop
       cases hact
       exact hd.JJ hX hdraw hdst hq hC h1 h3 hop
      ·cases hact
    ·cases hact
   ·
    rcases hd.cov i hb with h|⟨p,hp,e⟩
    ·rw[h2] at h;cases h
    ·subst e
     have hpo:=(hd.po p hp).op
     rw[h1] at hpo
     cases hpo
     exact hd.late hX hdraw hdst hp h2 h3 fun ι' a' w' hd'=>ihf _ ι' a' w' (by omega) hd'
include hX in
theorem Cw {call:dh}(hC:ob P call):Fb P X call:=by
 intro ro N ops fr s r hN hdst hq hdraw h ι₀ s₀ w₀ ι a w hf hH hE
 refine FP hX hdraw hN hdst hq hC _ _ _ _ _ h ops.size _ ι a w ?_ ?_
 ·simp only[cnt,Array.toList_replicate]
  exact Nat.le_trans List.countP_le_length (by simp)
 ·have hr:∀i,(Array.replicate ops.size false).getD i false=false:=fun i=>by
   rw[Array.getD_eq_getD_getElem?,Array.getElem?_replicate]
   split<;>rfl
  refine⟨by simp,fun i hi=>?_,fun i hi=>?_,fun i hi=>?_,by simp,by simp,by simp,by simp,by simp,trivial,⟨fun k v _ hv=>hf.t k v (fun h=>h) hv,hf.d,hf.n⟩,hH,hE⟩
  ·rw[A5] at hi;cases hi
  ·rw[hr] at hi;cases hi
  ·rw[A5] at hi;cases hi
end
end Go.Am
end
section
namespace Go.Am
section
variable {P:Program}{X:Ctx}(hX:dC P X)
theorem HR.dead {ι:Inj}{s:St}{w w':World}(h:HR P ι s w){b cb:Nat}{d:Nat×Nat}{ab:AB}(hb:ι b=some (cb,d))(hg:s.h.get b=some ab)(hkin:Kin w w')(hsz:w'.heap.size=w.heap.size)(hk:∀c,c≠cb→w'.heap[c]? =w.heap[c]?):
  HR P ι {s with h:=s.h.del b} w'∧Ext ι s w ι {s with h:=s.h.del b} w':=by
 suffices hE:Ext ι s w ι {s with h:=s.h.del b} w' by
  refine⟨⟨h.gl.ext hE rfl,h.base,h.dom,fun c cc dd ab1 hx hg1=>?_,fun c c' cc dd dd' ab1 ab2 h1 h2 g1 g2=>h.inj c c' cc dd dd' ab1 ab2 h1 h2 (Tr.gz g1).2 (Tr.gz g2).2⟩,hE⟩
  ·obtain⟨hne,hg1⟩:=Tr.gz hg1
   have:cc≠cb:=fun e=>hne (h.inj c b cc dd d ab1 ab hx (e▸hb) hg1 hg)
   exact(h.br c cc dd ab1 hx hg1).frame (hk cc this) ι.le_refl
 refine⟨ι.le_refl,by rw[hsz];exact Nat.le_refl _,fun c hc ho=>⟨hk c ?_,?_⟩,fun _ _=>rfl,Nat.le_refl _,hkin⟩
 ·intro e;subst e;exact ho ⟨b,d,ab,hb,hg⟩
 ·rintro⟨c',dd,ab1,hx,hg1⟩
  exact ho ⟨c',dd,ab1,hx,(Tr.gz hg1).2⟩
theorem kD {w:World}{cb:Nat}{o:Obj}(c:Nat)(h:c≠cb):(w.putObj cb o).heap[c]? =w.heap[c]? :=World.putObj_heap_other h
def pf (tmps:Array Value):ResultVar→Sem Value
 | .tmp t=>pure (tmps.getD t undef)
 | .cell x t=>do loadVar t (←asAddr (tmps.getD x undef))
theorem vP (fn:Func)(tmps:Array Value):results fn tmps=(do let vs ←fn.results.mapM (pf tmps);pure (if h:vs.size=1 then vs[0] else .tuple vs)):=by
 have:(fun r=>match r with
  | .tmp t=>pure (tmps.getD t undef)
  | .cell x t=>do loadVar t (←asAddr (tmps.getD x undef)):ResultVar→Sem Value)=pf tmps:=by
  funext r;cases r<;>rfl
 rw[←this]
 rfl
include hX in
theorem Ft {N:Nat}{ι:Inj}{fr:Fr}{a:Act}{s:St}{w:World}{r:ResultVar}{v:AV}(h:yM X fr s r=some v)(hf:FRN N mh ι fr a)(hH:HR P ι s w):
  ∃cv,(pf a.tmps r).run P w= .ok cv w∧VR ι v cv:=by
 unfold yM at h
 split at h
 ·rename_i t
  split at h
  ·rename_i u hu
   cases h
   obtain⟨cv,h1,h2⟩:=hf.t t _ (fun h=>h) hu
   exact⟨cv,by simp[pf,h1],h2⟩
  ·cases h
   exact⟨_,by simp[pf];rfl,by simp[VR]⟩
 ·rename_i x t
  have hv:=hf.opd (.tmp x) (fun _ _ h=>h)
  have hv':VR ι (fr.opd (.tmp x)) (a.tmps.getD x undef):=by simpa[Act.eval] using hv
  obtain⟨cv,h1,h2⟩:=uf hX hH h hv'
  refine⟨cv,?_,h2⟩
  unfold loadT at h
  split at h
  ·rename_i b off hp
   rw[hp] at hv'
   obtain⟨c,d,_,e⟩:=hv'.ptr
   rw[e] at h1
   simp only[pf]
   rw[e]
   simpa[Instr.loadAt,Instr.sureAddr,asAddr] using h1
  ·rename_i g off hp
   rw[hp] at hv'
   simp only[VR] at hv'
   rw[hv'] at h1
   simp only[pf]
   rw[hv']
   simpa[Instr.loadAt,Instr.sureAddr,asAddr] using h1
  ·cases h
include hX in
theorem pd {N:Nat}{ι:Inj}{fr:Fr}{a:Act}{s:St}{w:World}{fn:Func}{v:AV}(h:q7 X fr s fn.results=some v)(hf:FRN N mh ι fr a)(hH:HR P ι s w):
  ∃cv,(results fn a.tmps).run P w= .ok cv w∧VR ι v cv:=by
 have key:∀ (rs:List ResultVar) (l:List AV),uu X fr s rs=some l→∃m:List Value,(rs.mapM (pf a.tmps)).run P w= .ok m w∧VRs ι l m:=by
  intro rs
  induction rs with
  |nil=>intro l hl;cases hl;exact⟨[],by simp,by simp[VRs]⟩
  |cons r rs ih=>
   intro l hl
   unfold uu at hl
   split at hl
   ·rename_i v hv
    split at hl
    ·rename_i l' hl'
     cases hl
     obtain⟨m,h1,h2⟩:=ih _ hl'
     obtain⟨cv,h3,h4⟩:=Ft hX hv hf hH
     refine⟨cv::m,?_,by simp only[VRs];exact⟨h4,h2⟩⟩
     rw[List.mapM_cons]
     simp only[Sem.run_bind]
     rw[h3]
     simp only[Result.andThen_ok]
     rw[h1]
     simp
    ·cases hl
   ·cases hl
 unfold q7 at h
 split at h
 ·rename_i x hx
  cases h
  obtain⟨m,h1,h2⟩:=key _ _ hx
  match m,h1,h2 with
  |[cv],h1,h2=>
   have h3:=vJ (P:=P) (w:=w) fn.results _ _ h1
   refine⟨cv,?_,by simpa[VRs] using h2⟩
   rw[vP]
   simp only[Sem.run_bind]
   rw[h3]
   simp
  |[],_,h2=>simp[VRs] at h2
  | _::_::_,_,h2=>simp[VRs] at h2
 ·rename_i l hne hx
  cases h
  obtain⟨m,h1,h2⟩:=key _ _ hx
  have h3:=vJ (P:=P) (w:=w) fn.results _ _ h1
  have hlen:=h2.length
  refine⟨.tuple m.toArray,?_,by simp only[VR];exact⟨_,rfl,by simpa using h2⟩⟩
  have hm:m.length≠1:=fun e=>by
   rw[e] at hlen
   match l,hlen with
   |[y],_=>exact hne y rfl
  rw[vP]
  simp only[Sem.run_bind]
  rw[h3]
  simp[hm]
 ·cases h
variable (hF:∀f fn,X.fns.get f=some fn→qN fn=true)
def oI (P:Program)(own:bk):Prop:=
 ∀f g,own f=some g→∀args s r,g args s=some r→∀ι w cargs,VRs ι args cargs.toList→HR P ι s w→ny P ι s w r f cargs
def zN (P:Program)(ev:Ev):Prop:=
 ∀c fr s r,ev c fr s=some r→∀ro N,N≤1000000000→dg N c=true→(ro=none∨quiet c=true)→∀ι a w,FRN N mh ι fr a→HR P ι s w→c.wpIn (FE P ro) 0 P (lG P N ι s w r) a w
theorem DRs.vG {ι:Inj}{m:List Deferred}(h:DRs ι [] m):m=[]:=by cases h;rfl
def MR (ι:Inj):DM→FrameMode→Prop
 | .ret,u=>u= .returning
 | .pan v,u=>∃cv,VR ι v cv∧u= .panicking [{v:=cv,recovered:=false}]
 | .rcv _,u=>∃cv,u= .panicking [{v:=cv,recovered:=true}]
theorem MR.mono {ι κ:Inj}(h:ι.le κ){m:DM}{u:FrameMode}(hm:MR ι m u):MR κ m u:=by
 cases m with
 |ret=>exact hm
 |pan v=>obtain⟨cv,h1,h2⟩:=hm;exact⟨cv,h1.mono h,h2⟩
 |rcv v=>exact hm
theorem MR.settle {ι:Inj}{m:DM}{u:FrameMode}(hm:MR ι m u):MR ι (settled m) (settle u):=by
 cases m with
 |ret=>simp only[MR] at hm;subst hm;simp[settled,MR,Go.settle]
 |pan v=>obtain⟨cv,h1,rfl⟩:=hm;exact⟨cv,h1,by simp[Go.settle]⟩
 |rcv v=>obtain⟨cv,rfl⟩:=hm;simp[settled,MR,Go.settle]
def IA (P:Program)(N:Nat)(c₀:Frame)(cs:List Frame)(ι:Inj)(s:St)(w:World)(r:EX×Fr×St×DM)(e:Exit)(a':Act)(cs':List Frame)(w':World):Prop:=
 ∃κ u,cs'={c₀ with mode:=u}::cs∧MR κ r.2.2.2 u∧FRN N mh κ r.2.1 a'∧HR P κ r.2.2.1 w'∧Ext ι s w κ r.2.2.1 w'∧match r.1,e with
  | .norm, .normal=>True
  | .brk i, .exit j=>i=j
  | .ret, .ret=>True
  | .pan v, .panic ch=>∃cv,ch=[{v:=cv,recovered:=false}]∧VR κ v cv
  | _,_=>False
theorem oB {F:Fence}{n:Nat}{P:Program}{c:Code}{Q Q':Exit→Act→List Frame→World→Prop}{a:Act}{cs:List Frame}{w:World}(h:c.wpSIn F n P Q a cs w)(hq:∀e a cs w,Q e a cs w→Q' e a cs w):c.wpSIn F n P Q' a cs w:=
 fun b k hb hr hF hroom=>let⟨e,a',cs',w',l,q,r⟩:=h b k hb hr hF hroom;⟨e,a',cs',w',l,hq _ _ _ _ q,r⟩
include hX in
theorem yj {ops:Array Oper}{o:Oper}{N:Nat}{ι:Inj}{fr:Fr}{a:Act}{s:St}{w:World}{pr:PR}(h:ed X fV ops o fr s=some pr)(hq:∀fr' s',pr= .go fr' s'→fr'.d=[])(hf:FRN N mh ι fr a)(hH:HR P ι s w)(hd:mj N o=true):
  (Region.wanted o (yielded ops a.tmps)=false∧∃fr',pr= .go fr' s∧FRN N mh ι fr' (a.put o.dst undef))∨
  (Region.wanted o (yielded ops a.tmps)=true∧((∃cv w' κ fr' s',((execOp a.eval o).run P w= .ok (.value cv) w'∨((execOp a.eval o).run P w= .ok .skip w'∧cv=undef))∧pr= .go fr' s'∧FRN N mh κ fr' (a.put o.dst cv)∧HR P κ s' w'∧Ext ι s w κ s' w')∨
   ∃v cv,(execOp a.eval o).run P w= .halt (.panic cv) w∧pr= .pan v fr s∧VR ι v cv)):=by
 have hdl:∀d,o.dst=some d→d<N:=fun d=>mc hd
 have he:∀x∈o.op.operands,VR ι (fr.opd x) (a.eval x):=fun x hx=>hf.opd x fun t ht h=>h
 unfold ed xu at h
 split at h
 ·cases h
 ·rename_i hw
  have hw:=iq hw hf (fun _ _ h=>h)
  unfold mM at h
  split at h
  ·obtain⟨fr',rfl,_,_,_,h3⟩:=fT h
   exact .inl ⟨hw,fr',rfl,h3 hf (by simp[undef,VR,VRs]) hdl⟩
  ·cases h
 ·rename_i hw
  have hw:=iq hw hf (fun _ _ h=>h)
  refine .inr ⟨hw,?_⟩
  unfold mg at h
  split at h
  ·cases h
  ·rename_i v hop
   obtain⟨cv,h1,h2⟩:=dc hX hop hH he
   obtain⟨fr',rfl,_,_,_,h3⟩:=fT h
   exact .inl ⟨cv,w,ι,fr',s, .inl h1,rfl,h3 hf h2 hdl,hH,Ext.refl _ _ _⟩
  ·rename_i v hop
   simp only[km] at h
   obtain⟨cv,h1,h2⟩:=dc hX hop hH he
   obtain⟨fr',rfl,_,_,_,h3⟩:=fT h
   exact .inl ⟨cv,w,ι,fr',s, .inl h1,rfl,h3 hf h2 hdl,hH,Ext.refl _ _ _⟩
  ·rename_i v s' hop
   unfold vx at h
   simp only[oF,km] at h
   obtain⟨κ,w',cv,h1,h2,g3,g4⟩:=dc hX hop hH he
   obtain⟨fr',rfl,_,_,_,h3⟩:=fT h
   exact .inl ⟨cv,w',κ,fr',s',h1,rfl,h3 (hf.mono g4.le) h2 hdl,g3,g4⟩
  ·rename_i d hop
   obtain⟨fr',rfl,h1,_⟩:=fT h
   have:=hq _ _ rfl
   rw[h1] at this
   cases this
  ·rename_i v hop
   cases h
   obtain⟨cv,h1,h2⟩:=dc hX hop hH he
   exact .inr ⟨v,cv,h1,rfl,h2⟩
  ·rename_i f args hop
   simp only[mz,fV,hU] at h
   cases h
  ·rename_i b args hop
   simp only[mz,fV,hU] at h
   cases h
theorem yI:ob P fV:=fun _ _ _ _ h=>by cases h
theorem xF {o:Oper}{a:Act}{w:World}(h:isRec o=true):∀f,o.about P w a.eval=some f→∃fn,P.funcs[f]? =some fn:=by
 intro f hf
 unfold isRec at h
 unfold Oper.about at hf
 split at h
 ·rename_i c ho
  simp only[ho] at hf
  split at h
  ·rename_i hc
   simp[resolve,hc,Target.leads] at hf
  ·cases h
 ·cases h
include hX in
theorem yq {call:dh}(hC:ob P call){ops:Array Oper}{o:Oper}{N:Nat}{ι:Inj}{fr:Fr}{a:Act}{s:St}{w:World}{pr:PR}(h:ed X call ops o fr s=some pr)(hf:FRN N mh ι fr a)(hH:HR P ι s w):∀f,o.about P w a.eval=some f→∃fn,P.funcs[f]? =some fn:=by
 have he:∀x∈o.op.operands,VR ι (fr.opd x) (a.eval x):=fun x hx=>hf.opd x fun t ht h=>h
 unfold ed xu at h
 split at h
 ·cases h
 ·unfold mM at h
  split at h
  ·rename_i hp;exact vH hX hp he
  ·cases h
 ·exact w6 hX hC h hH he
include hX in
theorem eY {ops:Array Oper}{N:Nat}{r:EX×Fr×St×DM}{c₀:Frame}{cs:List Frame}{ι₀:Inj}{s₀:St}{w₀:World}:∀ (l:List Oper) (i:Nat),ops.toList.drop i=l→l.all (mj N)=true→∀ {m:DM} {u:FrameMode} {ι:Inj} {fr:Fr} {a:Act} {s:St} {w:World},fx X fV ops l m fr s=some r→
  MR ι m u→FRN N mh ι fr a→HR P ι s w→Ext ι₀ s₀ w₀ ι s w→wpOpsSIn (FE P none) 0 P ops (IA P N c₀ cs ι₀ s₀ w₀ r) (List.range' i l.length) a ({c₀ with mode:=u}::cs) w
 |[],i,hl,hd,m,u,ι,fr,a,s,w,h,hm,hf,hH,hE=>by
  cases h
  exact⟨ι,u,rfl,hm,hf,hH,hE,trivial⟩
 |o::l,i,hl,hd,m,u,ι,fr,a,s,w,h,hm,hf,hH,hE=>by
  have hoi:ops[i]? =some o:=by
   have:=congrArg List.head? hl
   simpa using this
  have hl':ops.toList.drop (i+1)=l:=by
   have:=congrArg List.tail hl
   simpa using this
  simp only[List.all_cons,Bool.and_eq_true] at hd
  rw[List.length_cons,List.range'_succ]
  unfold fx at h
  simp only[wpOpsSIn,hoi]
  refine⟨?_,?_⟩
  ·split at h
   ·rename_i hrec;exact xF hrec
   ·unfold wq at h
    split at h
    ·rename_i hop;exact yq hX yI hop hf hH
    ·rename_i hop;exact yq hX yI hop hf hH
    ·cases h
  split at h
  ·
   rename_i hrec
   unfold Eg at h
   split at h
   ·rename_i hw
    have hw:=iq hw hf (fun _ _ h=>h)
    simp only[hw,if_true]
    have hrun:(execOp a.eval o).run P w= .ok .recover w:=by
     unfold isRec at hrec
     split at hrec
     ·rename_i c ho
      split at hrec
      ·rename_i hc
       simp[execOp,ho,resolve,hc,invoke,builtin]
      ·cases hrec
     ·cases hrec
    rw[hrun]
    simp only
    unfold wq at h
    split at h
    ·rename_i fr' s' hg
     split at h
     ·obtain⟨fr2,e,h1,h2,h4,h3⟩:=fT hg
      cases e
      cases m with
      |ret=>
       simp only[MR] at hm
       subst hm
       simp only[recoverD]
       exact eY l (i+1) hl' hd.2 (m:= .ret) h rfl (h3 hf (by simp[jy,VR]) fun d=>mc hd.1) hH hE
      |pan v=>
       obtain⟨cv,hv,rfl⟩:=hm
       simp only[recoverD]
       exact eY l (i+1) hl' hd.2 (m:= .rcv v) h ⟨cv,rfl⟩ (h3 hf hv fun d=>mc hd.1) hH hE
      |rcv v=>
       obtain⟨cv,rfl⟩:=hm
       simp only[recoverD]
       exact eY l (i+1) hl' hd.2 (m:= .rcv v) h ⟨cv,rfl⟩ (h3 hf (by simp[jy,VR]) fun d=>mc hd.1) hH hE
     ·cases h
    ·rename_i v fr' s' hg
     obtain⟨fr2,e,_⟩:=fT hg
     cases e
    ·cases h
   ·cases h
  ·
   unfold wq at h
   split at h
   ·rename_i fr' s' hop
    split at h
    ·rename_i hd0
     rcases yj hX hop (fun fr'' s'' e=>by cases e;exact hd0) hf hH hd.1 with⟨hw,fr2,e,hf'⟩|⟨hw,⟨cv,w',κ,fr2,s2,hr,e,hf',hH',hE'⟩|⟨v,cv,hr,e,_⟩⟩
     ·cases e
      simp only[hw,Bool.false_eq_true,if_false]
      exact eY l (i+1) hl' hd.2 h hm hf' hH hE
     ·cases e
      simp only[hw,if_true]
      have:=eY (c₀:=c₀) (cs:=cs) l (i+1) hl' hd.2 h (hm.mono hE'.le) hf' hH' (hE.trans hE')
      rcases hr with hr|⟨hr,rfl⟩
      ·rw[hr];exact this
      ·rw[hr];exact this
     ·cases e
    ·cases h
   ·rename_i v fr' s' hop
    cases h
    rcases yj hX hop (fun fr'' s'' e=>by cases e) hf hH hd.1 with⟨hw,fr2,e,hf'⟩|⟨hw,⟨cv,w',κ,fr2,s2,hr,e,hf',hH',hE'⟩|⟨v,cv,hr,e,hv⟩⟩
    ·cases e
    ·cases e
    ·cases e
     simp only[hw,if_true]
     rw[hr]
     exact⟨ι,u,rfl,hm,hf,hH,hE,cv,rfl,hv⟩
   ·cases h
include hX in
theorem yu {ev:Ev}(hev:zN P ev){N:Nat}(hN:N≤1000000000){c₀:Frame}{cs:List Frame}{ι₀:Inj}{s₀:St}{w₀:World}:∀ (c:Code) {r:EX×Fr×St×DM} {m:DM} {u:FrameMode} {ι:Inj} {fr:Fr} {a:Act} {s:St} {w:World},evS X ev c m fr s=some r→dg N c=true→
  MR ι m u→FRN N mh ι fr a→HR P ι s w→Ext ι₀ s₀ w₀ ι s w→c.wpSIn (FE P none) 0 P (IA P N c₀ cs ι₀ s₀ w₀ r) a ({c₀ with mode:=u}::cs) w:=by
 have plain:∀ (c:Code) {r:EX×Fr×St×DM} {m:DM} {u:FrameMode} {ι:Inj} {fr:Fr} {a:Act} {s:St} {w:World},oz m (ev c fr s)=some r→dg N c=true→
   MR ι m u→FRN N mh ι fr a→HR P ι s w→Ext ι₀ s₀ w₀ ι s w→c.wpSIn (FE P none) 0 P (IA P N c₀ cs ι₀ s₀ w₀ r) a ({c₀ with mode:=u}::cs) w:=by
  intro c r m u ι fr a s w h hc hm hf hH hE
  unfold oz at h
  split at h
  ·rename_i x fr' s' he
   cases h
   refine wpSIn_of_wpIn rfl (wpIn_mono (hev c fr s _ he none N hN hc (.inl rfl) ι a w hf hH) fun e a' w' ⟨κ,h1,h2,h3,h4⟩=>⟨κ,u,rfl,hm.mono h3.le,h1,h2,hE.trans h3,h4⟩)
  ·cases h
 intro c
 induction c with
 |seq x y ihx ihy=>
  intro r m u ι fr a s w h hc hm hf hH hE
  simp only[dg,Bool.and_eq_true] at hc
  refine wpSIn_seq ?_
  simp only[evS] at h
  split at h
  ·rename_i fr' s' m' he
   refine oB (ihx he hc.1 hm hf hH hE) fun e a' cs' w' ⟨κ,u',g0,g1,g2,g3,g4,g5⟩=>?_
   subst g0
   cases e<;>simp only at g5
   exact ihy h hc.2 g1 g2 g3 g4
  ·rename_i hne
   obtain⟨x',fr',s',m'⟩:=r
   refine oB (ihx h hc.1 hm hf hH hE) fun e a' cs' w' hp=>?_
   cases e
   case normal=>
    obtain⟨κ,u',g0,g1,g2,g3,g4,g5⟩:=hp
    cases x'<;>simp only at g5
    exact absurd h (hne _ _ _)
   all_goals exact hp
 |region id ops draw=>
  intro r m u ι fr a s w h hc hm hf hH hE
  simp only[evS] at h
  split at h
  ·rename_i hr
   simp only[Bool.and_eq_true,Bool.not_eq_true'] at hr
   obtain⟨rfl,_⟩:=hr
   simp only[dg,Bool.and_eq_true] at hc
   refine wpSIn_region ?_
   have:=eY hX (c₀:=c₀) (cs:=cs) ops.toList 0 (by simp) hc.1 h hm hf hH hE
   simpa[List.range_eq_range'] using this
  ·exact plain _ h hc hm hf hH hE
 | _=>intro r m u ι fr a s w h hc hm hf hH hE;exact plain _ h hc hm hf hH hE
include hX hF in
theorem jS {ev:Ev}(hev:zN P ev){fn:Func}{N:Nat}{r:CR}{ι₀:Inj}{s₀:St}{w₀:World}:∀ (l:List DE) {cl:List Deferred} {m:DM} {u:FrameMode} {ι:Inj} {fr:Fr} {a:Act} {s:St} {w:World},leave X ev fn fr l m s=some r→DRs ι l cl→
  MR ι m u→FRN N mh ι fr a→HR P ι s w→Ext ι₀ s₀ w₀ ι s w→LeavesInM (FE P none) 0 P fn a.tmps (tN P ι₀ s₀ w₀ r) cl u w
 |[],cl,m,u,ι,fr,a,s,w,h,hl,hm,hf,hH,hE=>by
  cases hl
  cases m with
  |ret=>
   simp only[MR] at hm
   subst hm
   simp only[leave,DA] at h
   split at h
   ·rename_i v hv
    cases h
    obtain⟨cv,g1,g2⟩:=pd hX hv hf hH
    exact⟨cv,g1,v,s,rfl,ι,g2,hH,hE⟩
   ·cases h
  |pan v=>
   obtain⟨cv,hv,rfl⟩:=hm
   simp only[leave] at h
   cases h
   exact⟨v,s,rfl,ι,cv,rfl,hv,hH,hE⟩
  |rcv v=>simp[leave] at h
 | .mark b::l,cl,m,u,ι,fr,a,s,w,h,hl,hm,hf,hH,hE=>by
  cases hl with
  | @mark _ cb c _ cl x h1 h2 hl=>
   simp only[leave] at h
   have hu:u≠ .run:=by
    cases m with
    |ret=>simp only[MR] at hm;rw[hm];simp
    |pan v=>obtain⟨_,_,e⟩:=hm;rw[e];simp
    |rcv v=>obtain⟨_,e⟩:=hm;rw[e];simp
   split at h
   ·rename_i s' hs
    unfold tv at hs
    split at hs
    ·rename_i hg
     cases hs
     have hbr:=hH.br b cb x _ h2 hg
     obtain⟨g1,g2⟩:=hH.dead (w':=w.putObj cb (.deferred none)) h2 hg ⟨rfl,rfl⟩ World.putObj_size (fun c hc=>kD c hc)
     exact⟨hu, .inl ⟨cb,_,h1,run_takeDeferred hbr.2,jS hev l h hl hm hf g1 (hE.trans g2)⟩⟩
    ·cases hs
   ·cases h
 | .fn d::l,cl,m,u,ι,fr,a,s,w,h,hl,hm,hf,hH,hE=>by
  cases hl with
  | @cons _ c _ cl cap h1 h2 hl=>
   simp only[leave] at h
   split at h
   ·rename_i m' s' hd
    unfold kM at hd
    split at hd
    ·rename_i g hg
     split at hd
     ·rename_i code hc
      have hP:=hX.fns d.fn g hg
      have hok:=hF d.fn g hg
      simp only[qN,hc,Bool.and_eq_true,bne_iff_ne,ne_eq] at hok
      have hu:u≠ .run:=by
       cases m with
       |ret=>simp only[MR] at hm;rw[hm];simp
       |pan v=>obtain⟨_,_,e⟩:=hm;rw[e];simp
       |rcv v=>obtain⟨_,e⟩:=hm;rw[e];simp
      refine⟨hu, .inr ⟨lJ (ro:=none), .func d.fn,cap,d.fn,c.args++cap,h1,by rw[h1];simp[invoke,callFunc,hP,hc,hok.2.1],fun f' hf'=>by rw[h1] at hf';simp only[Target.leads,Option.some.injEq] at hf';exact hf'▸ ⟨g,hP⟩,?_⟩⟩
      refine CallsDIn.mono (callsDIn_of_wpSIn (R:=fun e u' w'=>∃ (κ:Inj) (mm:Value),e= .returned mm∧MR κ m' (settle u')∧HR P κ s' w'∧Ext ι₀ s₀ w₀ κ s' w'∧ι.le κ) hP hc ⟨g,hP⟩ fun c₀ cs hc₀=>?_) fun e u' w' ⟨κ,mm,he,g1,g2,g3,g4⟩=>?_
      ·have hf0:FRN g.ntmps mh ι {t:=Tr.of d.args,d:=[]} {tmps:=(c.args++cap)++Array.replicate (g.ntmps- (c.args++cap).size) undef,defers:=[]}:=by
        refine⟨fun k v _ hk=>?_, .nil,by simp;omega⟩
        obtain⟨cv,q1,q2⟩:=h2.get (Tr.df hk)
        have hk':k<(c.args++cap).size:=by
         have:=(List.getElem?_eq_some_iff.1 q1).1
         simpa using this
        refine⟨cv,?_,q2⟩
        simp only
        rw[Array.getElem?_append_left hk']
        rw[←Array.getElem?_toList];exact q1
       have hc':({c₀ with mode:=u}:Frame)=c₀:=by subst hc₀;rfl
       unfold z9 at hd
       split at hd
       ·rename_i fr' s'' m'' he
        split at hd
        ·rename_i v hdd hv
         cases hd
         have:=yu hX hev (Nat.ble_eq.mp hok.2.2) (c₀:=c₀) (cs:=cs) code he hok.1 hm hf0 hH (Ext.refl _ _ _)
         rw[hc'] at this
         refine oB this fun e a' cs' w' ⟨κ,u',g0,g1,g2,g3,g4,g5⟩=>?_
         cases e<;>simp only at g5
         have hdr:=g2.d
         simp only[hdd] at hdr
         obtain⟨cv,q1,q2⟩:=pd hX hv g2 g3
         exact⟨hdr.vG,u',g0,cv,q1,κ,cv,rfl,g1.settle,g3,hE.trans g4,g4.le⟩
        ·cases hd
       ·rename_i fr' s'' m'' he
        split at hd
        ·rename_i v hdd hv
         cases hd
         have:=yu hX hev (Nat.ble_eq.mp hok.2.2) (c₀:=c₀) (cs:=cs) code he hok.1 hm hf0 hH (Ext.refl _ _ _)
         rw[hc'] at this
         refine oB this fun e a' cs' w' ⟨κ,u',g0,g1,g2,g3,g4,g5⟩=>?_
         cases e<;>simp only at g5
         have hdr:=g2.d
         simp only[hdd] at hdr
         obtain⟨cv,q1,q2⟩:=pd hX hv g2 g3
         exact⟨hdr.vG,u',g0,cv,q1,κ,cv,rfl,g1.settle,g3,hE.trans g4,g4.le⟩
        ·cases hd
       ·cases hd
      ·subst he
       exact jS hev l h (hl.mono g4) g1 (hf.mono g4) g2 g3
     ·cases hd
    ·cases hd
   ·cases h
include hX hF in
theorem gY {ev:Ev}(hev:zN P ev){f:FuncId}{args:List AV}{s:St}{r:CR}(h:dy X ev f args s=some r){ι:Inj}{w:World}{cargs:Array Value}(hv:VRs ι args cargs.toList)(hH:HR P ι s w):(callFunc f cargs).run P w= .ok (.enter f cargs) w∧CallsIn (FE P none) 0 P f cargs w (tN P ι s w r):=by
 unfold dy at h
 split at h
 ·rename_i fn hfn
  split at h
  ·rename_i c hc
   have hP:=hX.fns f fn hfn
   have hok:=hF f fn hfn
   simp only[qN,hc,Bool.and_eq_true,bne_iff_ne,ne_eq] at hok
   refine⟨by simp[callFunc,hP,hc,hok.2.1],?_⟩
   refine callsIn_of_wp_marks (n:=0) hP hc ⟨fn,hP⟩ ?_
   have hf0:FRN fn.ntmps mh ι {t:=Tr.of args,d:=[]} {tmps:=cargs++Array.replicate (fn.ntmps- cargs.size) undef,defers:=[]}:=by
    refine⟨fun k v _ hk=>?_, .nil,by simp;omega⟩
    obtain⟨cv,h1,h2⟩:=hv.get (Tr.df hk)
    have hk':k<cargs.size:=by
     have:=(List.getElem?_eq_some_iff.1 h1).1
     simpa using this
    refine⟨cv,?_,h2⟩
    simp only
    rw[Array.getElem?_append_left hk']
    simpa using h1
   unfold rB at h
   split at h
   ·rename_i fr s' he
    refine wpIn_mono (hev c _ s _ he none fn.ntmps (Nat.ble_eq.mp hok.2.2) hok.1 (.inl rfl) ι _ w hf0 hH) fun e a' w' ⟨κ,h1,h2,h3,h4⟩=>?_
    cases e<;>simp only at h4
    exact jS hX hF hev _ h h1.d rfl h1 h2 h3
   ·rename_i fr s' he
    refine wpIn_mono (hev c _ s _ he none fn.ntmps (Nat.ble_eq.mp hok.2.2) hok.1 (.inl rfl) ι _ w hf0 hH) fun e a' w' ⟨κ,h1,h2,h3,h4⟩=>?_
    cases e<;>simp only at h4
    exact jS hX hF hev _ h h1.d rfl h1 h2 h3
   ·rename_i v fr s' he
    refine wpIn_mono (hev c _ s _ he none fn.ntmps (Nat.ble_eq.mp hok.2.2) hok.1 (.inl rfl) ι _ w hf0 hH) fun e a' w' ⟨κ,h1,h2,h3,h4⟩=>?_
    cases e<;>simp only at h4
    obtain⟨cv,rfl,hcv⟩:=h4
    exact jS hX hF hev _ h h1.d ⟨cv,hcv,rfl⟩ h1 h2 h3
   ·cases h
  ·cases h
 ·cases h
include hX hF in
theorem wE {ev:Ev}(hev:zN P ev){f:FuncId}{args:List AV}{s:St}{r:CR}(h:dy X ev f args s=some r){ι:Inj}{w:World}{cargs:Array Value}(hv:VRs ι args cargs.toList)(hH:HR P ι s w):ny P ι s w r f cargs:=
 .inl (gY hX hF hev h hv hH)
end
end Go.Am
end
