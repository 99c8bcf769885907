/-
  A part of the texts.
-/
import Derived.LoopNIn
import Derived.RecoverIn
import Derived.RangeFuncRecord
import Derived.Test.YtofohkdkpbigiaaQag
section
namespace Go.Am
theorem Ord.done {L:Array Bool}{done:Nat}(hs:∀i,L.getD i false=true→bit done i=true):∀ {l:List bn},(∀p∈l,bit done p.i=true)→Ord L l→∀q∈l,∀e∈q.o.after,onB e=true→bit done e.on=true
 |[],_,_,q,hq=>by cases hq
 |p::l,hd,⟨h1,h2⟩,q,hq=>by
  intro e he hb
  rcases List.mem_cons.mp hq with rfl|hq
  ·rcases h1 e he hb with h|⟨q',hq',e'⟩
   ·exact hs _ h
   ·rw[←e'];exact hd q' (by simp[hq'])
  ·exact Ord.done hs (fun p hp=>hd p (by simp[hp])) h2 q hq e he hb
def EU (P:Program)(X:Ctx)(call:dh):Prop:=
 ∀ (ro:Option Nat) (N:Nat) (ops:Array Oper) (fr:Fr) (s:St) (r:EX×Fr×St),N≤1000000000→ops.toList.all (mH N)=true→(ro=none∨ops.toList.all gz=true)→qF ops=true→oF X call ops (ef ops) (ops.size+1) 0 [] fr s=some r→
  ∀ (ι₀:Inj) (s₀:St) (w₀:World) (ι:Inj) (a:Act) (w:World),FRN N mB ι fr a→HR P ι s w→Ext ι₀ s₀ w₀ ι s w→wpAnyIn (FE P ro) 0 P .any ops (lW P N ι₀ s₀ w₀ r) ops.size (Array.replicate ops.size false) a w
section
variable {P:Program}{X:Ctx}(hX:dU P X){ops:Array Oper}(hdraw:qF ops=true){N:Nat}(hN:N≤1000000000)(hdst:ops.toList.all (mH N)=true)
 {ι₀:Inj} {s₀:St} {w₀:World} {done:Nat} {pend:List bn} {fr:Fr} {s:St} {L:Array Bool} {ι:Inj} {a:Act} {w:World} {Q:Exit→Act→World→Prop} {K:Act→World→Prop}
theorem Fr.Ls {fr:Fr}{dst:Option Nat}{v:AV}{k:Nat}(hd:∀d,dst=some d→d≤1000000000)(hk:dst≠some k):(fr.put dst v).t.get k=fr.t.get k:=by
 unfold Fr.put
 cases dst with
 |none=>rfl
 |some d=>exact Tr.qB (hd d rfl) fun e=>hk (by rw[e])
theorem Fr.rF {fr:Fr}{dst:Option Nat}{v u:AV}{d:Nat}(hd:dst=some d)(h:(fr.put dst v).t.get d=some u):u=v:=by
 subst hd
 rcases Tr.df h with⟨_,e⟩|⟨e,_⟩
 ·exact e.symm
 ·exact absurd rfl e
include hdraw hN hdst in
theorem DI.pY (h:DI P X ops N ι₀ s₀ w₀ done pend fr s L ι a w){i:Nat}{o:Oper}(hi:ops[i]? =some o)(hnd:bit done i=false)(hna:mC o=false)(hra:∀e∈o.after,onB e=true→bit done e.on=true)
  {v:AV}{lay:Option (Nat×AB)}{s':St}(hle:s.le s')(hnx:s.nx≤s'.nx)(hH:HR P ι s' w)(hE:Ext ι₀ s₀ w₀ ι s' w)
  (hnew:(∀t∈o.looksAt ops,(fr.put o.dst v).t.get t=fr.t.get t)→PO P X ops s₀.nx ⟨(fr.put o.dst v).t,fr.d⟩ s' ⟨i,o,v,lay⟩)
  (hout:∀b ab,lay=some (b,ab)→ι b=none)(huniq:∀b x,lay=some (b,x)→∀q∈pend,∀y,q.laid≠some (b,y)):
  DI P X ops N ι₀ s₀ w₀ (Nat.lor done (Nat.pow 2 i)) (⟨i,o,v,lay⟩::pend) ⟨(fr.put o.dst v).t,fr.d⟩ s' L ι a w:=by
 have hdo:mH N o=true:=List.all_eq_true.mp hdst o (by rw[Array.mem_toList_iff];exact Array.mem_of_getElem? hi)
 have hdb:∀d,o.dst=some d→d≤1000000000:=fun d hd=>Nat.le_trans (Nat.le_of_lt (lN hdo hd)) hN
 have hdone:=Ord.done h.sub h.pdone h.ord
 have hne:∀q∈pend,q.i≠i:=fun q hq e=>by
  have:=h.pdone q hq
  rw[e,hnd] at this;cases this
 have hL:L.getD i false=false:=by
  cases hl:L.getD i false
  ·rfl
  ·have:=h.sub i hl
   rw[hnd] at this;cases this
 have same:∀k,o.dst≠some k→(fr.put o.dst v).t.get k=fr.t.get k:=fun k hk=>Fr.Ls hdb hk
 have lq:∀q∈pend,∀t∈q.o.looksAt ops,(fr.put o.dst v).t.get t=fr.t.get t:=fun q hq t ht=>same t fun e=>by
  have hap:=(jr hdraw hi (h.po q hq).op hna e).2 (fun e=>hne q hq e.symm)
  obtain⟨e',he',hb,hon⟩:=nQ.mp (hap.2 ht)
  have:=hdone q hq e' he' hb
  rw[hon,hnd] at this;cases this
 have oq:∀q∈pend,∀x∈q.o.op.operands,(⟨(fr.put o.dst v).t,fr.d⟩:Fr).opd x=fr.opd x:=fun q hq x hx=>wZ fun t ht=>lq q hq t (sq hx ht)
 refine⟨h.size,fun j hj=>?_,fun j hj=>?_,fun j hj=>?_,fun q hq=>?_,fun q hq=>?_,fun q hq b ab hl hql=>?_,fun q hq q' hq' b x y hl hl'=>?_,fun q hq q' hq' e=>?_,?_,⟨fun k u hk hu=>?_,h.frame.d,h.frame.n⟩,hH,hE⟩
 ·rw[pk] at hj
  rcases Bool.or_eq_true_iff.mp hj with hj|hj
  ·exact h.rng j hj
  ·have:i=j:=by simpa using hj
   subst this
   exact(Array.getElem?_eq_some_iff.mp hi).1
 ·rw[pk,h.sub j hj];rfl
 ·rw[pk] at hj
  rcases Bool.or_eq_true_iff.mp hj with hj|hj
  ·exact(h.cov j hj).imp id fun⟨p,hp,e⟩=>⟨p,by simp[hp],e⟩
  ·have:i=j:=by simpa using hj
   exact .inr ⟨_,List.mem_cons_self,this⟩
 ·rw[pk]
  rcases List.mem_cons.mp hq with rfl|hq
  ·simp
  ·rw[h.pdone q hq];rfl
 ·rcases List.mem_cons.mp hq with rfl|hq
  ·refine hnew fun t ht=>same t fun e=>?_
   exact(jr hdraw hi hi hna e).1 rfl ht
  ·have hp:=h.po q hq
   refine⟨hp.op,hp.na,fun d u hd hu=>?_,fun hl=>?_,fun b ab hl=>?_⟩
   ·refine hp.slot d u hd ?_
    rw[←same d fun e=>?_]
    ·exact hu
    ·exact((jr hdraw hp.op hi hp.na hd).2 (hne q hq)).1 e
   ·rw[mI (fr:=fr) (fr':=⟨(fr.put o.dst v).t,fr.d⟩) (lq q hq),mj (oq q hq)]
    refine(hp.plain hl).imp (fun⟨g1,g2⟩=>⟨g1,?_⟩) id
    rcases g2 with g2|g2
    ·exact .inl (yL hle hp.na g2 (by simp))
    ·exact .inr (yL hle hp.na g2 (by simp))
   ·obtain⟨g1,g2,g3,g4,g5,f,g6,g7⟩:=hp.laid b ab hl
    refine⟨by rw[mI (fr:=fr) (fr':=⟨(fr.put o.dst v).t,fr.d⟩) (lq q hq)];exact g1,hle.h _ _ g2,g3,Nat.lt_of_lt_of_le g4 hnx,g5,f,g6,fun ι w a he=>g7 ι w a fun x hx=>?_⟩
    rw[←oq q hq x hx];exact he x hx
 ·rcases List.mem_cons.mp hq with rfl|hq
  ·exact hout b ab hl
  ·exact h.out q hq b ab hl hql
 ·rcases List.mem_cons.mp hq with rfl|hq<;>rcases List.mem_cons.mp hq' with rfl|hq'
  ·rfl
  ·exact absurd hl' (huniq b x hl q' hq' y)
  ·exact absurd hl (huniq b y hl' q hq x)
  ·exact h.uniq q hq q' hq' b x y hl hl'
 ·rcases List.mem_cons.mp hq with rfl|hq<;>rcases List.mem_cons.mp hq' with rfl|hq'
  ·rfl
  ·exact absurd e.symm (hne q' hq')
  ·exact absurd e (hne q hq)
  ·exact h.one q hq q' hq' e
 ·exact⟨fun e he hb=>h.cov _ (hra e he hb),h.ord⟩
 ·have hkd:o.dst≠some k:=fun e=>hk ⟨_,List.mem_cons_self,hL,e⟩
  have hu:(fr.put o.dst v).t.get k=some u:=hu
  rw[same k hkd] at hu
  exact h.frame.t k u (fun⟨p,hp,h1,h2⟩=>hk ⟨p,by simp[hp],h1,h2⟩) hu
include hX hdraw hN hdst in
theorem DI.take (h:DI P X ops N ι₀ s₀ w₀ done pend fr s L ι a w){i:Nat}{o:Oper}(hi:ops[i]? =some o)(hm:rR done i o=true){p:bn}{fr':Fr}{s':St}(ht:kC X i o fr s (bI ops fr o)=some (p,fr',s')):
  p.i=i∧DI P X ops N ι₀ s₀ w₀ (Nat.lor done (Nat.pow 2 i)) (p::pend) fr' s' L ι a w:=by
 simp only[rR,Bool.and_eq_true,Bool.not_eq_true'] at hm
 obtain⟨⟨hnd,hna⟩,hra⟩:=hm
 have hra:=sr.mp hra
 have hxs:∀ {v:AV} {x:Operand},(∀t∈o.looksAt ops,(fr.put o.dst v).t.get t=fr.t.get t)→x∈o.op.operands→(⟨(fr.put o.dst v).t,fr.d⟩:Fr).opd x=fr.opd x:=fun hs hx=>wZ fun t ht=>hs t (sq hx ht)
 have hws:∀ {v:AV},(∀t∈o.looksAt ops,(fr.put o.dst v).t.get t=fr.t.get t)→bI ops ⟨(fr.put o.dst v).t,fr.d⟩ o=bI ops fr o:=fun hs=>mI hs
 unfold kC at ht
 split at ht
 ·cases ht
 ·rename_i hw
  simp only[kH] at ht
  cases ht
  refine⟨rfl,h.pY hdraw hN hdst hi hnd hna hra ⟨fun _ _ h=>h,rfl⟩ (Nat.le_refl _) h.heap h.ext (fun hs=>⟨hi,hna,fun d u hd hu=>Fr.rF hd hu,fun _=> .inr ⟨?_,rfl⟩,by simp⟩) (by simp) (by simp)⟩
  rw[hws hs];exact hw
 ·rename_i hw
  unfold B2 at ht
  split at ht
  ·rename_i v hop
   simp only[kH] at ht
   cases ht
   refine⟨rfl,h.pY hdraw hN hdst hi hnd hna hra ⟨fun _ _ h=>h,rfl⟩ (Nat.le_refl _) h.heap h.ext (fun hs=>⟨hi,hna,fun d u hd hu=>Fr.rF hd hu,fun _=> .inl ⟨?_, .inl ?_⟩,by simp⟩) (by simp) (by simp)⟩
   ·rw[hws hs];exact hw
   ·simp only
    rw[mj (fun x hx=>hxs hs hx)];exact hop
  ·rename_i v hop
   simp only[kH,kF] at ht
   cases ht
   refine⟨rfl,h.pY hdraw hN hdst hi hnd hna hra ⟨fun _ _ h=>h,rfl⟩ (Nat.le_refl _) h.heap h.ext (fun hs=>⟨hi,hna,fun d u hd hu=>Fr.rF hd hu,fun _=> .inl ⟨?_, .inr ?_⟩,by simp⟩) (by simp) (by simp)⟩
   ·rw[hws hs];exact hw
   ·simp only
    rw[mj (fun x hx=>hxs hs hx)];exact hop
  ·rename_i v s1 hop
   split at ht
   ·rename_i hfree
    simp only[oW,kF,kH] at ht
    split at ht
    ·rename_i ab' hg
     cases ht
     obtain⟨hl,ab,f,h1,h2⟩:=Fm (P:=P) hX hop hna
     have he:=h1 s
     rw[hop] at he
     simp only[Option.some.injEq,OR.val.injEq] at he
     obtain⟨rfl,rfl⟩:=he
     have hab:ab=ab':=by
      rcases Tr.df hg with⟨_,e⟩|⟨e,_⟩
      ·exact e
      ·exact absurd rfl e
     subst hab
     have hle:s.le (s.new ab).2:=⟨fun b x hb=>by
      have hne:b≠s.nx:=fun e=>by rw[e,hfree] at hb;cases hb
      show(s.h.put s.nx ab).get b=some x
      rw[Tr.cV,if_neg hne];exact hb,rfl⟩
     refine⟨rfl,h.pY hdraw hN hdst hi hnd hna hra hle (Nat.le_succ _) (h.heap.ahead ab) (h.ext.ahead h.heap ab) (fun hs=>⟨hi,hna,fun d u hd hu=>Fr.rF hd hu,by simp,fun b x hb=>?_⟩) (fun b x hb=>?_) (fun b x hb q hq y hy=>?_)⟩
     ·simp only[Option.some.injEq,Prod.mk.injEq] at hb
      obtain⟨rfl,rfl⟩:=hb
      refine⟨by rw[hws hs];exact hw,hg,h.ext.nx,Nat.lt_succ_self _,hl,f,rfl,fun ι w a he=>h2 ι w a fun x hx=>?_⟩
      rw[←hxs hs hx];exact he x hx
     ·simp only[Option.some.injEq,Prod.mk.injEq] at hb
      obtain⟨rfl,rfl⟩:=hb
      exact h.heap.fresh
     ·simp only[Option.some.injEq,Prod.mk.injEq] at hb
      obtain⟨rfl,rfl⟩:=hb
      have:=((h.po q hq).laid _ _ hy).2.2.2.1
      omega
    ·cases ht
   ·cases ht
  ·cases ht
include hX hdraw hN hdst in
theorem oK {r:EX×Fr×St}{k:Nat→List bn→Fr→St→Option (EX×Fr×St)}:∀ (l:List (Nat×Oper)),(∀io∈l,ops[io.1]? =some io.2)→∀ (done:Nat) (pend:List bn) (fr:Fr) (s:St),lz X ops k l done pend fr s=some r→
  ∃done' pend' fr' s',k done' pend' fr' s'=some r∧∀L ι a w,DI P X ops N ι₀ s₀ w₀ done pend fr s L ι a w→DI P X ops N ι₀ s₀ w₀ done' pend' fr' s' L ι a w
 |[],_,done,pend,fr,s,h=>⟨done,pend,fr,s,h,fun _ _ _ _ h=>h⟩
 |io::l,hl,done,pend,fr,s,h=>by
  unfold lz at h
  split at h
  ·exact oK l (fun io h=>hl io (by simp[h])) done pend fr s h
  ·rename_i hm
   unfold zq at h
   split at h
   ·rename_i p fr' s' ht
    simp only[o9] at h
    obtain⟨d2,p2,f2,s2,g1,g2⟩:=oK l (fun io h=>hl io (by simp[h])) _ _ _ _ h
    exact⟨d2,p2,f2,s2,g1,fun L ι a w hd=>g2 L ι a w (hd.take hX hdraw hN hdst (hl io (by simp)) hm ht).2⟩
   ·cases h
include hX hdraw hN hdst in
theorem DI.act {ro:Option Nat}(hq:ro=none∨ops.toList.all gz=true){call:dh}(hC:od P call)(h:DI P X ops N ι₀ s₀ w₀ done pend fr s L ι a w){i:Nat}{o:Oper}(hi:ops[i]? =some o)(hnd:bit done i=false)(hr:∀e∈o.after,onB e=true→L.getD e.on false=true)
  {fr1:Fr}{s1:St}(h1:eA X call ops o fr s=some (.go fr1 s1))(hst:(pend.filter fun p=> !bS o p.i).all (m5 X ops fr1 s1)=true)
  (hk:∀ι' a' w',DI P X ops N ι₀ s₀ w₀ (Nat.lor done (Nat.pow 2 i)) (pend.filter fun p=> !bS o p.i) fr1 s1 (L.setIfInBounds i true) ι' a' w'→K a' w'):wpOpIn (FE P ro) 0 P ops Q i K a w:=by
 have hlt:i<L.size:=by rw[h.size];exact(Array.getElem?_eq_some_iff.mp hi).1
 have hdo:mH N o=true:=List.all_eq_true.mp hdst o (by rw[Array.mem_toList_iff];exact Array.mem_of_getElem? hi)
 have hdone:=Ord.done h.sub h.pdone h.ord
 have hne:∀q∈pend,q.i≠i:=fun q hq e=>by
  have:=h.pdone q hq
  rw[e,hnd] at this;cases this
 have mono:∀j,L.getD j false=true→(L.setIfInBounds i true).getD j false=true:=fun j hj=>by rw[jb hlt,hj];rfl
 have unl:∀j,(L.setIfInBounds i true).getD j false=false→L.getD j false=false∧i≠j:=fun j hj=>by
  rw[jb hlt] at hj
  simpa using hj
 have waited:∀q∈pend,bS o q.i=true→L.getD q.i false=true:=fun q _ hw=>by
  obtain⟨e,he,hb,hon⟩:=nQ.mp hw
  rw[←hon];exact hr e he hb
 have hqo:ro=none∨gz o=true:=hq.imp id fun hq=>List.all_eq_true.mp hq o (by rw[Array.mem_toList_iff];exact Array.mem_of_getElem? hi)
 refine pQ hX hC hi h1 h.frame h.heap (h.clear hdraw hi hr) hdo hqo (fun κ a' w' fr' s' e hf hH hE hs=>?_) (fun κ a' w' fr' s' v cv e=>by cases e)
 cases e
 have hs:=hs hN
 refine hk κ a' w' ⟨by simp[h.size],fun j hj=>?_,fun j hj=>?_,fun j hj=>?_,fun q hq=>?_,fun q hq=>?_,fun q hq b ab hl hql=>?_,fun q hq q' hq'=>h.uniq q (List.mem_filter.mp hq).1 q' (List.mem_filter.mp hq').1,fun q hq q' hq'=>h.one q (List.mem_filter.mp hq).1 q' (List.mem_filter.mp hq').1,
  Ord.filter (fun p hp hf=>mono _ (waited p hp (by simpa using hf))) (h.ord.mono mono),⟨fun k u hh hu=>?_,hf.d,hf.n⟩,hH,h.ext.trans hE⟩
 ·rw[pk] at hj
  rcases Bool.or_eq_true_iff.mp hj with hj|hj
  ·exact h.rng j hj
  ·have:i=j:=by simpa using hj
   subst this
   rw[←h.size];exact hlt
 ·rw[jb hlt] at hj
  rw[pk]
  rcases Bool.or_eq_true_iff.mp hj with hj|hj
  ·rw[h.sub j hj];rfl
  ·rw[hj];simp
 ·rw[pk] at hj
  rcases Bool.or_eq_true_iff.mp hj with hj|hj
  ·rcases h.cov j hj with hj|⟨q,hq,e⟩
   ·exact .inl (mono j hj)
   ·cases hw:bS o q.i
    ·exact .inr ⟨q,List.mem_filter.mpr ⟨hq,by simp[hw]⟩,e⟩
    ·exact .inl (mono j (e▸waited q hq hw))
  ·exact .inl (by rw[jb hlt,hj];simp)
 ·rw[pk,h.pdone q (List.mem_filter.mp hq).1];rfl
 ·have hqs:=List.all_eq_true.mp hst q hq
  have hq:=(List.mem_filter.mp hq).1
  have hp:=h.po q hq
  refine⟨hp.op,hp.na,fun d u hd hu=>?_,fun hl=>?_,fun b ab hl=>?_⟩
  ·refine hp.slot d u hd ?_
   rw[←hs d fun e=>((jr hdraw hp.op hi hp.na hd).2 (hne q hq)).1 e]
   exact hu
  ·unfold m5 at hqs
   simp only[hl] at hqs
   split at hqs
   ·rename_i hw
    refine .inl ⟨hw,?_⟩
    unfold aB at hqs
    split at hqs
    ·rename_i u hu;rw[AV.ir hqs] at hu;exact .inl hu
    ·rename_i u hu;rw[AV.ir hqs] at hu;exact .inr hu
    ·cases hqs
   ·rename_i hw
    refine .inr ⟨hw,?_⟩
    split at hqs
    ·rename_i hv;exact hv
    ·cases hqs
   ·cases hqs
  ·obtain⟨g1,g2,g3,g4,g5,f,g6,g7⟩:=hp.laid b ab hl
   have lq:∀t∈q.o.looksAt ops,fr1.t.get t=fr.t.get t:=fun t ht=>hs t fun e=>by
    obtain⟨e',he',hb,hon⟩:=nQ.mp (zo hdraw hp.op hi g5 e (hne q hq) ht)
    have:=hdone q hq e' he' hb
    rw[hon,hnd] at this;cases this
   refine⟨by rw[mI lq];exact g1,?_,g3,Nat.lt_of_lt_of_le g4 hE.nx,g5,f,g6,fun ι w a he=>g7 ι w a fun x hx=>?_⟩
   ·unfold m5 pD at hqs
    simp only[hl] at hqs
    split at hqs
    ·rename_i y hy;rw[F1 hqs];exact hy
    ·cases hqs
   ·have:=wZ (fr:=fr) (fr':=fr1) (x:=x) fun t ht=>lq t (sq hx ht)
    rw[←this];exact he x hx
 ·have hqp:=(List.mem_filter.mp hq).1
  rw[hE.old b ((h.po q hqp).laid b ab hl).2.2.2.1]
  exact h.out q hqp b ab hl (unl _ hql).1
 ·refine hf.t k u (fun⟨q,hq,hql,hqd⟩=>hh ⟨q,List.mem_filter.mpr ⟨hq,?_⟩,?_,hqd⟩) hu
  ·cases hw:bS o q.i
   ·rfl
   ·rw[waited q hq hw] at hql;cases hql
  ·rw[jb hlt,hql]
   simp only[Bool.false_or,decide_eq_false_iff_not]
   exact fun e=>hne q hq e.symm
include hX hdraw hdst in
theorem DI.JJ {ro:Option Nat}(hq:ro=none∨ops.toList.all gz=true){call:dh}(hC:od P call)(h:DI P X ops N ι₀ s₀ w₀ done pend fr s L ι a w){i:Nat}{o:Oper}(hi:ops[i]? =some o)(hr:∀e∈o.after,onB e=true→L.getD e.on false=true)
  {v:AV}{fr1:Fr}{s1:St}(h1:eA X call ops o fr s=some (.pan v fr1 s1)):wpOpIn (FE P ro) 0 P ops (lW P N ι₀ s₀ w₀ (.pan v,⟨.e,fr1.d⟩,s1)) i K a w:=by
 have hdo:mH N o=true:=List.all_eq_true.mp hdst o (by rw[Array.mem_toList_iff];exact Array.mem_of_getElem? hi)
 have hqo:ro=none∨gz o=true:=hq.imp id fun hq=>List.all_eq_true.mp hq o (by rw[Array.mem_toList_iff];exact Array.mem_of_getElem? hi)
 refine pQ hX hC hi h1 h.frame h.heap (h.clear hdraw hi hr) hdo hqo (fun κ a' w' fr' s' e=>by cases e) (fun κ a' w' fr' s' v cv e hf hH hE hv=>?_)
 cases e
 exact⟨κ,⟨fun k u _ hu=>(Tr.Pf hu).elim,hf.d,hf.n⟩,hH,h.ext.trans hE,cv,rfl,hv⟩
def cnt (L:Array Bool):Nat:=L.toList.countP (! ·)
theorem countP_set:∀ {l:List Bool} {i:Nat},l[i]? =some false→(l.set i true).countP (! ·)+1=l.countP (! ·)
 |[],i,h=>by simp at h
 |x::l,0,h=>by
  simp at h
  subst h
  simp
 |x::l,i+1,h=>by
  have:=countP_set (l:=l) (i:=i) (by simpa using h)
  simp only[List.set_cons_succ,List.countP_cons]
  omega
theorem LD {L:Array Bool}{i:Nat}(hi:i<L.size)(h:L.getD i false=false):cnt (L.setIfInBounds i true)+1=cnt L:=by
 obtain⟨l⟩:=L
 have hi:i<l.length:=hi
 have h:l[i]? =some false:=by
  simp[List.getElem?_eq_getElem hi] at h
  rw[List.getElem?_eq_getElem hi,h]
 simp only[cnt,List.setIfInBounds_toArray]
 exact countP_set h
theorem GO {L:Array Bool}(h:cnt L=0)(i:Nat)(hi:i<L.size):L.getD i false=true:=by
 have h:=List.countP_eq_zero.mp h
 have:=h L[i] (by simp)
 simp[hi] at this ⊢
 exact this
include hX hdraw hN hdst in
theorem FM {ro:Option Nat}(hq:ro=none∨ops.toList.all gz=true){call:dh}(hC:od P call){r:EX×Fr×St}:∀ (f:Nat) (done:Nat) (pend:List bn) (fr:Fr) (s:St),oF X call ops (ef ops) f done pend fr s=some r→
  ∀ (fuel:Nat) (L:Array Bool) (ι:Inj) (a:Act) (w:World),cnt L≤fuel→DI P X ops N ι₀ s₀ w₀ done pend fr s L ι a w→wpAnyIn (FE P ro) 0 P .any ops (lW P N ι₀ s₀ w₀ r) fuel L a w:=by
 intro f
 induction f with
 |zero=>intro done pend fr s h;cases h
 |succ f ih=>
  intro done pend fr s h fuel L ι a w hc hd
  obtain⟨done,pend,fr,s,hact,hstep⟩:=oK (ι₀:=ι₀) (s₀:=s₀) (w₀:=w₀) hX hdraw hN hdst (ef ops) (fun io hio=>gA.mp hio) _ _ _ _ h
  replace hd:=hstep L ι a w hd
  clear hstep h
  have mem:∀io,io∈gC (ef ops) done↔ops[io.1]? =some io.2∧bit done io.1=false∧∀e∈io.2.after,onB e=true→bit done e.on=true:=fun io=>by
   unfold gC
   rw[List.mem_filter,gA]
   simp only[Bool.and_eq_true,Bool.not_eq_true',sr]
  have fin:∀ {L ι a w},DI P X ops N ι₀ s₀ w₀ done pend fr s L ι a w→Region.ready .any ops L=[]→lW P N ι₀ s₀ w₀ r .normal a w:=fun{L ι a w} hd hr=>by
   have hall:=Ord.all hd.size hr (fun p hp=>(hd.po p hp).op) hd.ord
   have hnil:gC (ef ops) done=[]:=by
    refine List.eq_nil_iff_forall_not_mem.mpr fun io hio=>?_
    obtain⟨h1,h2,h3⟩:=(mem io).mp hio
    have:io.1∈Region.ready .any ops L:=(pT hd.size).mpr ⟨io.2,h1,?_,fun e he hb=>?_⟩
    ·rw[hr] at this;cases this
    ·cases hl:L.getD io.1 false
     ·rfl
     ·have:=hd.sub _ hl
      rw[h2] at this;cases this
    ·rcases hd.cov _ (h3 e he hb) with h|⟨p,hp,e'⟩
     ·exact h
     ·rw[←e'];exact hall p hp
   rw[hnil] at hact
   cases hact
   exact⟨ι,⟨fun k v _ hv=>hd.frame.t k v (fun⟨p,hp,h1,_⟩=>by rw[hall p hp] at h1;cases h1) hv,hd.frame.d,hd.frame.n⟩,hd.heap,hd.ext,trivial⟩
  revert L ι a w
  induction fuel with
  |zero=>
   intro L ι a w hc hd
   have hr:Region.ready .any ops L=[]:=by
    refine List.eq_nil_iff_forall_not_mem.mpr fun i hi=>?_
    obtain⟨o,h1,h2,_⟩:=(pT hd.size).mp hi
    have hlt:i<L.size:=by rw[hd.size];exact(Array.getElem?_eq_some_iff.mp h1).1
    rw[GO (Nat.le_zero.mp hc) i hlt] at h2;cases h2
   exact⟨hr,fin hd hr⟩
  |succ fuel ihf=>
   intro L ι a w hc hd
   refine⟨fin hd,fun i hi=>?_⟩
   obtain⟨o,h1,h2,h3⟩:=(pT hd.size).mp hi
   have hlt:i<L.size:=by rw[hd.size];exact(Array.getElem?_eq_some_iff.mp h1).1
   have hcs:=LD hlt h2
   cases hb:bit done i
   ·
    have hio:(i,o)∈gC (ef ops) done:=(mem (i,o)).mpr ⟨h1,hb,fun e he hbe=>hd.sub _ (h3 e he hbe)⟩
    unfold AF at hact
    split at hact
    ·rename_i e;rw[e] at hio;cases hio
    ·rename_i io e
     rw[e] at hio
     have hio:(i,o)=io:=by simpa using hio
     subst hio
     split at hact
     ·cases hact
     ·unfold DB at hact
      split at hact
      ·rename_i fr1 s1 hop
       split at hact
       ·rename_i hst
        simp only[o9] at hact
        exact hd.act hX hdraw hN hdst hq hC h1 hb h3 hop hst fun ι' a' w' hd'=>ih _ _ _ _ hact fuel _ ι' a' w' (by omega) hd'
       ·cases hact
      ·rename_i v fr1 s1 hop
       cases hact
       exact hd.JJ hX hdraw hdst hq hC h1 h3 hop
      ·cases hact
    ·cases hact
   ·
    rcases hd.cov i hb with h|⟨p,hp,e⟩
    ·rw[h2] at h;cases h
    ·subst e
     have hpo:=(hd.po p hp).op
     rw[h1] at hpo
     cases hpo
     exact hd.late hX hdraw hdst hp h2 h3 fun ι' a' w' hd'=>ihf _ ι' a' w' (by omega) hd'
include hX in
theorem Cg {call:dh}(hC:od P call):EU P X call:=by
 intro ro N ops fr s r hN hdst hq hdraw h ι₀ s₀ w₀ ι a w hf hH hE
 refine FM hX hdraw hN hdst hq hC _ _ _ _ _ h ops.size _ ι a w ?_ ?_
 ·simp only[cnt,Array.toList_replicate]
  exact Nat.le_trans List.countP_le_length (by simp)
 ·have hr:∀i,(Array.replicate ops.size false).getD i false=false:=fun i=>by
   rw[Array.getD_eq_getD_getElem?,Array.getElem?_replicate]
   split<;>rfl
  refine⟨by simp,fun i hi=>?_,fun i hi=>?_,fun i hi=>?_,by simp,by simp,by simp,by simp,by simp,trivial,⟨fun k v _ hv=>hf.t k v (fun h=>h) hv,hf.d,hf.n⟩,hH,hE⟩
  ·rw[Ba] at hi;cases hi
  ·rw[hr] at hi;cases hi
  ·rw[Ba] at hi;cases hi
end
end Go.Am
end
section
namespace Go.Am
section
variable {P:Program}{X:Ctx}(hX:dU P X)
theorem HR.dead {ι:Inj}{s:St}{w w':World}(h:HR P ι s w){b cb:Nat}{d:WD}{ab:AB}(hb:ι b=some (cb,d))(hg:s.h.get b=some ab)(hkin:Kin w w')(hsz:w'.heap.size=w.heap.size)(hk:∀c,c≠cb→w'.heap[c]? =w.heap[c]?)(hc:jd w w' cb d.2):
  HR P ι {s with h:=s.h.del b} w'∧Ext ι s w ι {s with h:=s.h.del b} w':=by
 suffices hE:Ext ι s w ι {s with h:=s.h.del b} w' by
  refine⟨⟨h.gl.ext hE rfl,h.base,h.dom,fun c cc dd ab1 hx hg1=>?_,fun c c' cc dd dd' ab1 ab2 h1 h2 g1 g2=>h.inj c c' cc dd dd' ab1 ab2 h1 h2 (Tr.fu g1).2 (Tr.fu g2).2⟩,hE⟩
  ·obtain⟨hne,hg1⟩:=Tr.fu hg1
   have:cc≠cb:=fun e=>hne (h.inj c b cc dd d ab1 ab hx (e▸hb) hg1 hg)
   exact(h.br c cc dd ab1 hx hg1).frame (hk cc this) ι.le_refl
 refine⟨ι.le_refl,by rw[hsz];exact Nat.le_refl _,fun c hc ho=>⟨hk c ?_,?_⟩,fun _ _=>rfl,Nat.le_refl _,hkin,fun c _ j=>?_,fun c=>?_⟩
 ·intro e;subst e;exact ho ⟨b,d,ab,hb,hg⟩
 ·rintro⟨c',dd,ab1,hx,hg1⟩
  exact ho ⟨c',dd,ab1,hx,(Tr.fu hg1).2⟩
 ·rintro⟨c',dd,ab1,hx,hg1,hj⟩
  exact⟨c',dd,ab1,hx,(Tr.fu hg1).2,hj⟩
 ·by_cases e:c=cb
  ·subst e;exact hc.mono fun j hj=>⟨b,d,ab,hb,hg,hj⟩
  ·exact .same (hk c e)
theorem lr {w:World}{cb:Nat}{o:Obj}(c:Nat)(h:c≠cb):(w.putObj cb o).heap[c]? =w.heap[c]? :=World.putObj_heap_other h
def pM (tmps:Array Value):ResultVar→Sem Value
 | .tmp t=>pure (tmps.getD t undef)
 | .cell x t=>do loadVar t (←asAddr (tmps.getD x undef))
theorem wP (fn:Func)(tmps:Array Value):results fn tmps=(do let vs ←fn.results.mapM (pM tmps);pure (if h:vs.size=1 then vs[0] else .tuple vs)):=by
 have:(fun r=>match r with
  | .tmp t=>pure (tmps.getD t undef)
  | .cell x t=>do loadVar t (←asAddr (tmps.getD x undef)):ResultVar→Sem Value)=pM tmps:=by
  funext r;cases r<;>rfl
 rw[←this]
 rfl
include hX in
theorem Fy {N:Nat}{ι:Inj}{fr:Fr}{a:Act}{s:St}{w:World}{r:ResultVar}{v:AV}(h:xS X fr s r=some v)(hf:FRN N mB ι fr a)(hH:HR P ι s w):
  ∃cv,(pM a.tmps r).run P w= .ok cv w∧VR ι v cv:=by
 unfold xS at h
 split at h
 ·rename_i t
  split at h
  ·rename_i u hu
   cases h
   obtain⟨cv,h1,h2⟩:=hf.t t _ (fun h=>h) hu
   exact⟨cv,by simp[pM,h1],h2⟩
  ·cases h
   exact⟨_,by simp[pM];rfl,by simp[VR]⟩
 ·rename_i x t
  have hv:=hf.opd (.tmp x) (fun _ _ h=>h)
  have hv':VR ι (fr.opd (.tmp x)) (a.tmps.getD x undef):=by simpa[Act.eval] using hv
  obtain⟨cv,h1,h2⟩:=ui hX hH h hv'
  refine⟨cv,?_,h2⟩
  unfold loadT at h
  split at h
  ·rename_i b off hp
   rw[hp] at hv'
   obtain⟨c,d,_,e⟩:=hv'.ptr
   rw[e] at h1
   simp only[pM]
   rw[e]
   simpa[Instr.loadAt,Instr.sureAddr,asAddr] using h1
  ·rename_i g off hp
   rw[hp] at hv'
   simp only[VR] at hv'
   rw[hv'] at h1
   simp only[pM]
   rw[hv']
   simpa[Instr.loadAt,Instr.sureAddr,asAddr] using h1
  ·cases h
include hX in
theorem pJ {N:Nat}{ι:Inj}{fr:Fr}{a:Act}{s:St}{w:World}{fn:Func}{v:AV}(h:su X fr s fn.results=some v)(hf:FRN N mB ι fr a)(hH:HR P ι s w):
  ∃cv,(results fn a.tmps).run P w= .ok cv w∧VR ι v cv:=by
 have key:∀ (rs:List ResultVar) (l:List AV),ux X fr s rs=some l→∃m:List Value,(rs.mapM (pM a.tmps)).run P w= .ok m w∧VRs ι l m:=by
  intro rs
  induction rs with
  |nil=>intro l hl;cases hl;exact⟨[],by simp,by simp[VRs]⟩
  |cons r rs ih=>
   intro l hl
   unfold ux at hl
   split at hl
   ·rename_i v hv
    split at hl
    ·rename_i l' hl'
     cases hl
     obtain⟨m,h1,h2⟩:=ih _ hl'
     obtain⟨cv,h3,h4⟩:=Fy hX hv hf hH
     refine⟨cv::m,?_,by simp only[VRs];exact⟨h4,h2⟩⟩
     rw[List.mapM_cons]
     simp only[Sem.run_bind]
     rw[h3]
     simp only[Result.andThen_ok]
     rw[h1]
     simp
    ·cases hl
   ·cases hl
 unfold su at h
 split at h
 ·rename_i x hx
  cases h
  obtain⟨m,h1,h2⟩:=key _ _ hx
  match m,h1,h2 with
  |[cv],h1,h2=>
   have h3:=wI (P:=P) (w:=w) fn.results _ _ h1
   refine⟨cv,?_,by simpa[VRs] using h2⟩
   rw[wP]
   simp only[Sem.run_bind]
   rw[h3]
   simp
  |[],_,h2=>simp[VRs] at h2
  | _::_::_,_,h2=>simp[VRs] at h2
 ·rename_i l hne hx
  cases h
  obtain⟨m,h1,h2⟩:=key _ _ hx
  have h3:=wI (P:=P) (w:=w) fn.results _ _ h1
  have hlen:=h2.length
  refine⟨.tuple m.toArray,?_,by simp only[VR];exact⟨_,rfl,by simpa using h2⟩⟩
  have hm:m.length≠1:=fun e=>by
   rw[e] at hlen
   match l,hlen with
   |[y],_=>exact hne y rfl
  rw[wP]
  simp only[Sem.run_bind]
  rw[h3]
  simp[hm]
 ·cases h
variable (hF:∀f fn,X.fns.get f=some fn→sU fn=true)
def pc (P:Program)(own:bj):Prop:=
 ∀f g,own f=some g→∀args s r,g args s=some r→∀ι w cargs,VRs ι args cargs.toList→HR P ι s w→np P ι s w r f cargs
def zV (P:Program)(ev:Ev):Prop:=
 ∀c fr s r,ev c fr s=some r→∀ro N,N≤1000000000→dj N c=true→(ro=none∨quiet c=true)→∀ι a w,FRN N mB ι fr a→HR P ι s w→c.wpIn (FE P ro) 0 P (lW P N ι s w r) a w
theorem DRs.wa {ι:Inj}{m:List Deferred}(h:DRs ι [] m):m=[]:=by cases h;rfl
def MR (ι:Inj):DM→FrameMode→Prop
 | .ret,u=>u= .returning
 | .pan v,u=>∃cv,VR ι v cv∧u= .panicking [{v:=cv,recovered:=false}]
 | .rcv _,u=>∃cv,u= .panicking [{v:=cv,recovered:=true}]
theorem MR.mono {ι κ:Inj}(h:ι.le κ){m:DM}{u:FrameMode}(hm:MR ι m u):MR κ m u:=by
 cases m with
 |ret=>exact hm
 |pan v=>obtain⟨cv,h1,h2⟩:=hm;exact⟨cv,h1.mono h,h2⟩
 |rcv v=>exact hm
theorem MR.settle {ι:Inj}{m:DM}{u:FrameMode}(hm:MR ι m u):MR ι (settled m) (settle u):=by
 cases m with
 |ret=>simp only[MR] at hm;subst hm;simp[settled,MR,Go.settle]
 |pan v=>obtain⟨cv,h1,rfl⟩:=hm;exact⟨cv,h1,by simp[Go.settle]⟩
 |rcv v=>obtain⟨cv,rfl⟩:=hm;simp[settled,MR,Go.settle]
def I6 (P:Program)(N:Nat)(c₀:Frame)(cs:List Frame)(ι:Inj)(s:St)(w:World)(r:EX×Fr×St×DM)(e:Exit)(a':Act)(cs':List Frame)(w':World):Prop:=
 ∃κ u,cs'={c₀ with mode:=u}::cs∧MR κ r.2.2.2 u∧FRN N mB κ r.2.1 a'∧HR P κ r.2.2.1 w'∧Ext ι s w κ r.2.2.1 w'∧match r.1,e with
  | .norm, .normal=>True
  | .brk i, .exit j=>i=j
  | .ret, .ret=>True
  | .pan v, .panic ch=>∃cv,ch=[{v:=cv,recovered:=false}]∧VR κ v cv
  | _,_=>False
theorem oH {F:Fence}{n:Nat}{P:Program}{c:Code}{Q Q':Exit→Act→List Frame→World→Prop}{a:Act}{cs:List Frame}{w:World}(h:c.wpSIn F n P Q a cs w)(hq:∀e a cs w,Q e a cs w→Q' e a cs w):c.wpSIn F n P Q' a cs w:=
 fun b k hb hr hF hroom=>let⟨e,a',cs',w',l,q,r⟩:=h b k hb hr hF hroom;⟨e,a',cs',w',l,hq _ _ _ _ q,r⟩
include hX in
theorem yf {ops:Array Oper}{o:Oper}{N:Nat}{ι:Inj}{fr:Fr}{a:Act}{s:St}{w:World}{pr:PR}(h:eA X gf ops o fr s=some pr)(hq:∀fr' s',pr= .go fr' s'→fr'.d=[])(hf:FRN N mB ι fr a)(hH:HR P ι s w)(hd:mH N o=true):
  (Region.wanted o (yielded ops a.tmps)=false∧∃fr',pr= .go fr' s∧FRN N mB ι fr' (a.put o.dst undef))∨
  (Region.wanted o (yielded ops a.tmps)=true∧((∃cv w' κ fr' s',((execOp a.eval o).run P w= .ok (.value cv) w'∨((execOp a.eval o).run P w= .ok .skip w'∧cv=undef))∧pr= .go fr' s'∧FRN N mB κ fr' (a.put o.dst cv)∧HR P κ s' w'∧Ext ι s w κ s' w')∨
   ∃v cv,(execOp a.eval o).run P w= .halt (.panic cv) w∧pr= .pan v fr s∧VR ι v cv)):=by
 have hdl:∀d,o.dst=some d→d<N:=fun d=>lN hd
 have he:∀x∈o.op.operands,VR ι (fr.opd x) (a.eval x):=fun x hx=>hf.opd x fun t ht h=>h
 unfold eA xD at h
 split at h
 ·cases h
 ·rename_i hw
  have hw:=iQ hw hf (fun _ _ h=>h)
  unfold mX at h
  split at h
  ·obtain⟨fr',rfl,_,_,_,h3⟩:=gg h
   exact .inl ⟨hw,fr',rfl,h3 hf (by simp[undef,VR,VRs]) hdl⟩
  ·cases h
 ·rename_i hw
  have hw:=iQ hw hf (fun _ _ h=>h)
  refine .inr ⟨hw,?_⟩
  unfold my at h
  split at h
  ·cases h
  ·rename_i v hop
   obtain⟨cv,h1,h2⟩:=de hX hop hH he
   obtain⟨fr',rfl,_,_,_,h3⟩:=gg h
   exact .inl ⟨cv,w,ι,fr',s, .inl h1,rfl,h3 hf h2 hdl,hH,Ext.refl _ _ _⟩
  ·rename_i v hop
   simp only[kF] at h
   obtain⟨cv,h1,h2⟩:=de hX hop hH he
   obtain⟨fr',rfl,_,_,_,h3⟩:=gg h
   exact .inl ⟨cv,w,ι,fr',s, .inl h1,rfl,h3 hf h2 hdl,hH,Ext.refl _ _ _⟩
  ·rename_i v s' hop
   unfold vR at h
   simp only[oW,kF] at h
   obtain⟨κ,w',cv,h1,h2,g3,g4⟩:=de hX hop hH he
   obtain⟨fr',rfl,_,_,_,h3⟩:=gg h
   exact .inl ⟨cv,w',κ,fr',s',h1,rfl,h3 (hf.mono g4.le) h2 hdl,g3,g4⟩
  ·rename_i d hop
   obtain⟨fr',rfl,h1,_⟩:=gg h
   have:=hq _ _ rfl
   rw[h1] at this
   cases this
  ·rename_i v hop
   cases h
   obtain⟨cv,h1,h2⟩:=de hX hop hH he
   exact .inr ⟨v,cv,h1,rfl,h2⟩
  ·rename_i f args hop
   simp only[mG,gf,iu] at h
   cases h
  ·rename_i b args hop
   simp only[mG,gf,iu] at h
   cases h
theorem yB:od P gf:=fun _ _ _ _ h=>by cases h
theorem xN {o:Oper}{a:Act}{w:World}(h:isRec o=true):∀f,o.about P w a.eval=some f→∃fn,P.funcs[f]? =some fn:=by
 intro f hf
 unfold isRec at h
 unfold Oper.about at hf
 split at h
 ·rename_i c ho
  simp only[ho] at hf
  split at h
  ·rename_i hc
   simp[resolve,hc,Target.leads] at hf
  ·cases h
 ·cases h
include hX in
theorem xW {call:dh}(hC:od P call){ops:Array Oper}{o:Oper}{N:Nat}{ι:Inj}{fr:Fr}{a:Act}{s:St}{w:World}{pr:PR}(h:eA X call ops o fr s=some pr)(hf:FRN N mB ι fr a)(hH:HR P ι s w):∀f,o.about P w a.eval=some f→∃fn,P.funcs[f]? =some fn:=by
 have he:∀x∈o.op.operands,VR ι (fr.opd x) (a.eval x):=fun x hx=>hf.opd x fun t ht h=>h
 unfold eA xD at h
 split at h
 ·cases h
 ·unfold mX at h
  split at h
  ·rename_i hp;exact wH hX hp he
  ·cases h
 ·exact vW hX hC h hH he
include hX in
theorem fb {ops:Array Oper}{N:Nat}{r:EX×Fr×St×DM}{c₀:Frame}{cs:List Frame}{ι₀:Inj}{s₀:St}{w₀:World}:∀ (l:List Oper) (i:Nat),ops.toList.drop i=l→l.all (mH N)=true→∀ {m:DM} {u:FrameMode} {ι:Inj} {fr:Fr} {a:Act} {s:St} {w:World},fD X gf ops l m fr s=some r→
  MR ι m u→FRN N mB ι fr a→HR P ι s w→Ext ι₀ s₀ w₀ ι s w→wpOpsSIn (FE P none) 0 P ops (I6 P N c₀ cs ι₀ s₀ w₀ r) (List.range' i l.length) a ({c₀ with mode:=u}::cs) w
 |[],i,hl,hd,m,u,ι,fr,a,s,w,h,hm,hf,hH,hE=>by
  cases h
  exact⟨ι,u,rfl,hm,hf,hH,hE,trivial⟩
 |o::l,i,hl,hd,m,u,ι,fr,a,s,w,h,hm,hf,hH,hE=>by
  have hoi:ops[i]? =some o:=by
   have:=congrArg List.head? hl
   simpa using this
  have hl':ops.toList.drop (i+1)=l:=by
   have:=congrArg List.tail hl
   simpa using this
  simp only[List.all_cons,Bool.and_eq_true] at hd
  rw[List.length_cons,List.range'_succ]
  unfold fD at h
  simp only[wpOpsSIn,hoi]
  refine⟨?_,?_⟩
  ·split at h
   ·rename_i hrec;exact xN hrec
   ·unfold wJ at h
    split at h
    ·rename_i hop;exact xW hX yB hop hf hH
    ·rename_i hop;exact xW hX yB hop hf hH
    ·cases h
  split at h
  ·
   rename_i hrec
   unfold D4 at h
   split at h
   ·rename_i hw
    have hw:=iQ hw hf (fun _ _ h=>h)
    simp only[hw,if_true]
    have hrun:(execOp a.eval o).run P w= .ok .recover w:=by
     unfold isRec at hrec
     split at hrec
     ·rename_i c ho
      split at hrec
      ·rename_i hc
       simp[execOp,ho,resolve,hc,invoke,builtin]
      ·cases hrec
     ·cases hrec
    rw[hrun]
    simp only
    unfold wJ at h
    split at h
    ·rename_i fr' s' hg
     split at h
     ·obtain⟨fr2,e,h1,h2,h4,h3⟩:=gg hg
      cases e
      cases m with
      |ret=>
       simp only[MR] at hm
       subst hm
       simp only[recoverD]
       exact fb l (i+1) hl' hd.2 (m:= .ret) h rfl (h3 hf (by simp[jC,VR]) fun d=>lN hd.1) hH hE
      |pan v=>
       obtain⟨cv,hv,rfl⟩:=hm
       simp only[recoverD]
       exact fb l (i+1) hl' hd.2 (m:= .rcv v) h ⟨cv,rfl⟩ (h3 hf hv fun d=>lN hd.1) hH hE
      |rcv v=>
       obtain⟨cv,rfl⟩:=hm
       simp only[recoverD]
       exact fb l (i+1) hl' hd.2 (m:= .rcv v) h ⟨cv,rfl⟩ (h3 hf (by simp[jC,VR]) fun d=>lN hd.1) hH hE
     ·cases h
    ·rename_i v fr' s' hg
     obtain⟨fr2,e,_⟩:=gg hg
     cases e
    ·cases h
   ·cases h
  ·
   unfold wJ at h
   split at h
   ·rename_i fr' s' hop
    split at h
    ·rename_i hd0
     rcases yf hX hop (fun fr'' s'' e=>by cases e;exact hd0) hf hH hd.1 with⟨hw,fr2,e,hf'⟩|⟨hw,⟨cv,w',κ,fr2,s2,hr,e,hf',hH',hE'⟩|⟨v,cv,hr,e,_⟩⟩
     ·cases e
      simp only[hw,Bool.false_eq_true,if_false]
      exact fb l (i+1) hl' hd.2 h hm hf' hH hE
     ·cases e
      simp only[hw,if_true]
      have:=fb (c₀:=c₀) (cs:=cs) l (i+1) hl' hd.2 h (hm.mono hE'.le) hf' hH' (hE.trans hE')
      rcases hr with hr|⟨hr,rfl⟩
      ·rw[hr];exact this
      ·rw[hr];exact this
     ·cases e
    ·cases h
   ·rename_i v fr' s' hop
    cases h
    rcases yf hX hop (fun fr'' s'' e=>by cases e) hf hH hd.1 with⟨hw,fr2,e,hf'⟩|⟨hw,⟨cv,w',κ,fr2,s2,hr,e,hf',hH',hE'⟩|⟨v,cv,hr,e,hv⟩⟩
    ·cases e
    ·cases e
    ·cases e
     simp only[hw,if_true]
     rw[hr]
     exact⟨ι,u,rfl,hm,hf,hH,hE,cv,rfl,hv⟩
   ·cases h
include hX in
theorem yJ {ev:Ev}(hev:zV P ev){N:Nat}(hN:N≤1000000000){c₀:Frame}{cs:List Frame}{ι₀:Inj}{s₀:St}{w₀:World}:∀ (c:Code) {r:EX×Fr×St×DM} {m:DM} {u:FrameMode} {ι:Inj} {fr:Fr} {a:Act} {s:St} {w:World},evS X ev c m fr s=some r→dj N c=true→
  MR ι m u→FRN N mB ι fr a→HR P ι s w→Ext ι₀ s₀ w₀ ι s w→c.wpSIn (FE P none) 0 P (I6 P N c₀ cs ι₀ s₀ w₀ r) a ({c₀ with mode:=u}::cs) w:=by
 have plain:∀ (c:Code) {r:EX×Fr×St×DM} {m:DM} {u:FrameMode} {ι:Inj} {fr:Fr} {a:Act} {s:St} {w:World},oz m (ev c fr s)=some r→dj N c=true→
   MR ι m u→FRN N mB ι fr a→HR P ι s w→Ext ι₀ s₀ w₀ ι s w→c.wpSIn (FE P none) 0 P (I6 P N c₀ cs ι₀ s₀ w₀ r) a ({c₀ with mode:=u}::cs) w:=by
  intro c r m u ι fr a s w h hc hm hf hH hE
  unfold oz at h
  split at h
  ·rename_i x fr' s' he
   cases h
   refine wpSIn_of_wpIn rfl (wpIn_mono (hev c fr s _ he none N hN hc (.inl rfl) ι a w hf hH) fun e a' w' ⟨κ,h1,h2,h3,h4⟩=>⟨κ,u,rfl,hm.mono h3.le,h1,h2,hE.trans h3,h4⟩)
  ·cases h
 intro c
 induction c with
 |seq x y ihx ihy=>
  intro r m u ι fr a s w h hc hm hf hH hE
  simp only[dj,Bool.and_eq_true] at hc
  refine wpSIn_seq ?_
  simp only[evS] at h
  split at h
  ·rename_i fr' s' m' he
   refine oH (ihx he hc.1 hm hf hH hE) fun e a' cs' w' ⟨κ,u',g0,g1,g2,g3,g4,g5⟩=>?_
   subst g0
   cases e<;>simp only at g5
   exact ihy h hc.2 g1 g2 g3 g4
  ·rename_i hne
   obtain⟨x',fr',s',m'⟩:=r
   refine oH (ihx h hc.1 hm hf hH hE) fun e a' cs' w' hp=>?_
   cases e
   case normal=>
    obtain⟨κ,u',g0,g1,g2,g3,g4,g5⟩:=hp
    cases x'<;>simp only at g5
    exact absurd h (hne _ _ _)
   all_goals exact hp
 |region id ops draw=>
  intro r m u ι fr a s w h hc hm hf hH hE
  simp only[evS] at h
  split at h
  ·rename_i hr
   simp only[Bool.and_eq_true,Bool.not_eq_true'] at hr
   obtain⟨rfl,_⟩:=hr
   simp only[dj,Bool.and_eq_true] at hc
   refine wpSIn_region ?_
   have:=fb hX (c₀:=c₀) (cs:=cs) ops.toList 0 (by simp) hc.1 h hm hf hH hE
   simpa[List.range_eq_range'] using this
  ·exact plain _ h hc hm hf hH hE
 | _=>intro r m u ι fr a s w h hc hm hf hH hE;exact plain _ h hc hm hf hH hE
include hX hF in
theorem jT {ev:Ev}(hev:zV P ev){fn:Func}{N:Nat}{r:CR}{ι₀:Inj}{s₀:St}{w₀:World}:∀ (l:List DE) {cl:List Deferred} {m:DM} {u:FrameMode} {ι:Inj} {fr:Fr} {a:Act} {s:St} {w:World},leave X ev fn fr l m s=some r→DRs ι l cl→
  MR ι m u→FRN N mB ι fr a→HR P ι s w→Ext ι₀ s₀ w₀ ι s w→LeavesInM (FE P none) 0 P fn a.tmps (tY P ι₀ s₀ w₀ r) cl u w
 |[],cl,m,u,ι,fr,a,s,w,h,hl,hm,hf,hH,hE=>by
  cases hl
  cases m with
  |ret=>
   simp only[MR] at hm
   subst hm
   simp only[leave,Ea] at h
   split at h
   ·rename_i v hv
    cases h
    obtain⟨cv,g1,g2⟩:=pJ hX hv hf hH
    exact⟨cv,g1,v,s,rfl,ι,g2,hH,hE⟩
   ·cases h
  |pan v=>
   obtain⟨cv,hv,rfl⟩:=hm
   simp only[leave] at h
   cases h
   exact⟨v,s,rfl,ι,cv,rfl,hv,hH,hE⟩
  |rcv v=>simp[leave] at h
 | .mark b::l,cl,m,u,ι,fr,a,s,w,h,hl,hm,hf,hH,hE=>by
  cases hl with
  | @mark _ cb c _ cl x h1 h2 hl=>
   simp only[leave] at h
   have hu:u≠ .run:=by
    cases m with
    |ret=>simp only[MR] at hm;rw[hm];simp
    |pan v=>obtain⟨_,_,e⟩:=hm;rw[e];simp
    |rcv v=>obtain⟨_,e⟩:=hm;rw[e];simp
   split at h
   ·rename_i s' hs
    unfold tv at hs
    split at hs
    ·rename_i hg
     cases hs
     have hbr:=hH.br b cb x _ h2 hg
     obtain⟨g1,g2⟩:=hH.dead (w':=w.putObj cb (.deferred none)) h2 hg ⟨rfl,rfl⟩ World.putObj_size (fun c hc=>lr c hc) (.other (hH.br _ cb _ _ h2 hg).2 fun _ _ _=>by simp)
     exact⟨hu, .inl ⟨cb,_,h1,run_takeDeferred hbr.2,jT hev l h hl hm hf g1 (hE.trans g2)⟩⟩
    ·cases hs
   ·cases h
 | .fn d::l,cl,m,u,ι,fr,a,s,w,h,hl,hm,hf,hH,hE=>by
  cases hl with
  | @cons _ c _ cl cap h1 h2 hl=>
   simp only[leave] at h
   split at h
   ·rename_i m' s' hd
    unfold lD at hd
    split at hd
    ·rename_i g hg
     split at hd
     ·rename_i code hc
      have hP:=hX.fns d.fn g hg
      have hok:=hF d.fn g hg
      simp only[sU,hc,Bool.and_eq_true,bne_iff_ne,ne_eq] at hok
      have hu:u≠ .run:=by
       cases m with
       |ret=>simp only[MR] at hm;rw[hm];simp
       |pan v=>obtain⟨_,_,e⟩:=hm;rw[e];simp
       |rcv v=>obtain⟨_,e⟩:=hm;rw[e];simp
      refine⟨hu, .inr ⟨lP (ro:=none), .func d.fn,cap,d.fn,c.args++cap,h1,by rw[h1];simp[invoke,callFunc,hP,hc,hok.2.1],fun f' hf'=>by rw[h1] at hf';simp only[Target.leads,Option.some.injEq] at hf';exact hf'▸ ⟨g,hP⟩,?_⟩⟩
      refine CallsDIn.mono (callsDIn_of_wpSIn (R:=fun e u' w'=>∃ (κ:Inj) (mm:Value),e= .returned mm∧MR κ m' (settle u')∧HR P κ s' w'∧Ext ι₀ s₀ w₀ κ s' w'∧ι.le κ) hP hc ⟨g,hP⟩ fun c₀ cs hc₀=>?_) fun e u' w' ⟨κ,mm,he,g1,g2,g3,g4⟩=>?_
      ·have hf0:FRN g.ntmps mB ι {t:=Tr.of d.args,d:=[]} {tmps:=(c.args++cap)++Array.replicate (g.ntmps- (c.args++cap).size) undef,defers:=[]}:=by
        refine⟨fun k v _ hk=>?_, .nil,by simp;omega⟩
        obtain⟨cv,q1,q2⟩:=h2.get (Tr.dF hk)
        have hk':k<(c.args++cap).size:=by
         have:=(List.getElem?_eq_some_iff.1 q1).1
         simpa using this
        refine⟨cv,?_,q2⟩
        simp only
        rw[Array.getElem?_append_left hk']
        rw[←Array.getElem?_toList];exact q1
       have hc':({c₀ with mode:=u}:Frame)=c₀:=by subst hc₀;rfl
       unfold Ae at hd
       split at hd
       ·rename_i fr' s'' m'' he
        split at hd
        ·rename_i v hdd hv
         cases hd
         have:=yJ hX hev (Nat.ble_eq.mp hok.2.2) (c₀:=c₀) (cs:=cs) code he hok.1 hm hf0 hH (Ext.refl _ _ _)
         rw[hc'] at this
         refine oH this fun e a' cs' w' ⟨κ,u',g0,g1,g2,g3,g4,g5⟩=>?_
         cases e<;>simp only at g5
         have hdr:=g2.d
         simp only[hdd] at hdr
         obtain⟨cv,q1,q2⟩:=pJ hX hv g2 g3
         exact⟨hdr.wa,u',g0,cv,q1,κ,cv,rfl,g1.settle,g3,hE.trans g4,g4.le⟩
        ·cases hd
       ·rename_i fr' s'' m'' he
        split at hd
        ·rename_i v hdd hv
         cases hd
         have:=yJ hX hev (Nat.ble_eq.mp hok.2.2) (c₀:=c₀) (cs:=cs) code he hok.1 hm hf0 hH (Ext.refl _ _ _)
         rw[hc'] at this
         refine oH this fun e a' cs' w' ⟨κ,u',g0,g1,g2,g3,g4,g5⟩=>?_
         cases e<;>simp only at g5
         have hdr:=g2.d
         simp only[hdd] at hdr
         obtain⟨cv,q1,q2⟩:=pJ hX hv g2 g3
         exact⟨hdr.wa,u',g0,cv,q1,κ,cv,rfl,g1.settle,g3,hE.trans g4,g4.le⟩
        ·cases hd
       ·cases hd
      ·subst he
       exact jT hev l h (hl.mono g4) g1 (hf.mono g4) g2 g3
     ·cases hd
    ·cases hd
   ·cases h
include hX hF in
theorem ig {ev:Ev}(hev:zV P ev){f:FuncId}{args:List AV}{s:St}{r:CR}(h:dE X ev f args s=some r){ι:Inj}{w:World}{cargs:Array Value}(hv:VRs ι args cargs.toList)(hH:HR P ι s w):(callFunc f cargs).run P w= .ok (.enter f cargs) w∧CallsIn (FE P none) 0 P f cargs w (tY P ι s w r):=by
 unfold dE at h
 split at h
 ·rename_i fn hfn
  split at h
  ·rename_i c hc
   have hP:=hX.fns f fn hfn
   have hok:=hF f fn hfn
   simp only[sU,hc,Bool.and_eq_true,bne_iff_ne,ne_eq] at hok
   refine⟨by simp[callFunc,hP,hc,hok.2.1],?_⟩
   refine callsIn_of_wp_marks (n:=0) hP hc ⟨fn,hP⟩ ?_
   have hf0:FRN fn.ntmps mB ι {t:=Tr.of args,d:=[]} {tmps:=cargs++Array.replicate (fn.ntmps- cargs.size) undef,defers:=[]}:=by
    refine⟨fun k v _ hk=>?_, .nil,by simp;omega⟩
    obtain⟨cv,h1,h2⟩:=hv.get (Tr.dF hk)
    have hk':k<cargs.size:=by
     have:=(List.getElem?_eq_some_iff.1 h1).1
     simpa using this
    refine⟨cv,?_,h2⟩
    simp only
    rw[Array.getElem?_append_left hk']
    simpa using h1
   unfold rD at h
   split at h
   ·rename_i fr s' he
    refine wpIn_mono (hev c _ s _ he none fn.ntmps (Nat.ble_eq.mp hok.2.2) hok.1 (.inl rfl) ι _ w hf0 hH) fun e a' w' ⟨κ,h1,h2,h3,h4⟩=>?_
    cases e<;>simp only at h4
    exact jT hX hF hev _ h h1.d rfl h1 h2 h3
   ·rename_i fr s' he
    refine wpIn_mono (hev c _ s _ he none fn.ntmps (Nat.ble_eq.mp hok.2.2) hok.1 (.inl rfl) ι _ w hf0 hH) fun e a' w' ⟨κ,h1,h2,h3,h4⟩=>?_
    cases e<;>simp only at h4
    exact jT hX hF hev _ h h1.d rfl h1 h2 h3
   ·rename_i v fr s' he
    refine wpIn_mono (hev c _ s _ he none fn.ntmps (Nat.ble_eq.mp hok.2.2) hok.1 (.inl rfl) ι _ w hf0 hH) fun e a' w' ⟨κ,h1,h2,h3,h4⟩=>?_
    cases e<;>simp only at h4
    obtain⟨cv,rfl,hcv⟩:=h4
    exact jT hX hF hev _ h h1.d ⟨cv,hcv,rfl⟩ h1 h2 h3
   ·cases h
  ·cases h
 ·cases h
include hX hF in
theorem wS {ev:Ev}(hev:zV P ev){f:FuncId}{args:List AV}{s:St}{r:CR}(h:dE X ev f args s=some r){ι:Inj}{w:World}{cargs:Array Value}(hv:VRs ι args cargs.toList)(hH:HR P ι s w):np P ι s w r f cargs:=
 .inl (ig hX hF hev h hv hH)
end
end Go.Am
end
section
namespace Go.Am
def Dt (P:Program)(l:Nat)(R:Ending→World→Prop):Exit→Act→World→Prop
 | .normal,_,w=>∃v w',(Instr.endRound l none).run P w= .ok v w'∧R (.returned v) w'
 | .ret,_,w=>∃v w',(Instr.endRound l (some .ret)).run P w= .ok v w'∧R (.returned v) w'
 | .exit id,_,w=>∃v w',(Instr.endRound l (some (.exit id))).run P w= .ok v w'∧R (.returned v) w'
 | .goto t,_,w=>∃v w',(Instr.endRound l (some (.goto t))).run P w= .ok v w'∧R (.returned v) w'
 | .panic chain,a,w=>a.defers=[]∧R (.panicked chain) w
 | .outgrown,_,_=>False
theorem B6 {F:Fence}{n:Nat}{P:Program}{l:Nat}{f:FuncId}{tmps:Array Value}{assign body:Code}{w:World}{R:Ending→World→Prop}(hF:F.fn f)(hex:∃fn,P.funcs[f]? =some fn)
  (h:assign.wpIn (F.inRound l) n P (Exit.then (fun a₁ w₁=>∃w₂,(Instr.beginRound l).run P w₁= .ok () w₂∧body.wpIn (F.inRound l) n P (Dt P l R) a₁ w₂) (fun _ _ _=>False))
   {tmps:=tmps,defers:=[]} w):
  RoundIn F n P l f tmps assign body w R:=by
 refine⟨hF,fun c cs hr=>?_⟩
 let b:Frame:={(default:Frame) with fn:=f,kind:= .normal,roundOf:=some l}
 have hb0:Frame.round l f tmps assign body .normal=b.atR {tmps:=tmps,defers:=[]} [.code assign, .beginRound, .code body]:=by
  simp[Frame.round,Frame.atR,b]
 have hr':(F.inRound l).room ((c::cs).length+1+n):=hr
 have hF':(F.inRound l).fn b.fn:=hF
 obtain⟨e,a₁,w₁,hq,harr⟩:=h b [.beginRound, .code body] (c::cs) rfl hF' hr'
 rw[←hb0] at harr
 cases e with
 |normal=>
  obtain⟨w₂,hbr,hbody⟩:=hq
  have s1:StepsIn (Machine.fenced P (F.inRound l)) P (lone (b.atR a₁ [.beginRound, .code body]) (c::cs) w₁) (lone (b.atR a₁ [.code body]) (c::cs) w₂):=
   .one (fenced_calm (fr:=b.atR a₁ [.beginRound, .code body]) hF' hr' rfl) (stepR_beginRound rfl hbr)
  obtain⟨e₂,a₂,w₃,hq₂,harr₂⟩:=hbody b [] (c::cs) rfl hF' hr'
  cases e₂ with
  |normal=>
   obtain⟨v,w₄,hend,hR⟩:=hq₂
   exact⟨.returned v,w₄,hR,(StepsIn.trans harr s1).trans (StepsIn.trans harr₂ (.one (fenced_calm (fr:=b.atR a₂ []) hF' hr' rfl) (stepR_round_end rfl rfl hend)))⟩
  |ret=>
   obtain⟨v,w₄,hend,hR⟩:=hq₂
   obtain⟨k₁,hs⟩:=harr₂.2 rfl
   exact⟨.returned v,w₄,hR,(StepsIn.trans harr s1).trans (StepsIn.trans hs (.one (fenced_calm (fr:=b.atR a₂ (.code .ret::k₁)) hF' hr' rfl) (stepR_round_ret rfl rfl hend)))⟩
  |exit id=>
   obtain⟨v,w₄,hend,hR⟩:=hq₂
   obtain⟨k₁,hk,hs⟩:=harr₂.2 rfl rfl
   exact⟨.returned v,w₄,hR,(StepsIn.trans harr s1).trans (StepsIn.trans hs (.one (fenced_calm (fr:=b.atR a₂ (.code (.exit id)::k₁)) hF' hr' rfl) (stepR_round_exit rfl rfl hk hend)))⟩
  |goto t=>
   obtain⟨v,w₄,hend,hR⟩:=hq₂
   obtain⟨k₁,hk,hs⟩:=harr₂.2 rfl rfl
   exact⟨.returned v,w₄,hR,(StepsIn.trans harr s1).trans (StepsIn.trans hs (.one (fenced_calm (fr:=b.atR a₂ (.code (.goto t)::k₁)) hF' hr' rfl) (stepR_round_goto rfl rfl hk hend)))⟩
  |panic chain=>
   obtain⟨hd,hR⟩:=hq₂
   obtain⟨todo,hs⟩:=harr₂
   have hl:({b.atR a₂ todo with mode:= .panicking chain}:Frame).leaving P w₃ (.panicked chain):=⟨rfl,hd,hex⟩
   exact⟨.panicked chain,w₃,hR,(StepsIn.trans harr s1).trans (StepsIn.trans hs (.one (fenced_leaving (fr:={b.atR a₂ todo with mode:= .panicking chain}) hF' hr' hl) (step_leave_panicked hl)))⟩
  |outgrown=>exact hq₂.elim
 |exit id=>exact hq.elim
 |goto t=>exact hq.elim
 |ret=>exact hq.elim
 |panic chain=>exact hq.elim
 |outgrown=>exact hq.elim
section
variable {P:Program}{X:Ctx}(hX:dU P X)
theorem ue:∀ (ps:List Nat) (cargs:List Value) (tmps:Array Value),((ps.zip cargs).foldl (fun tmps (t,a)=>tmps.setIfInBounds t a) tmps).size=tmps.size
 |[],_,_=>by simp
 | _::_,[],_=>by simp
 |p::ps,c::cargs,tmps=>by
  simp only[List.zip_cons_cons,List.foldl_cons]
  rw[ue ps cargs]
  simp
theorem ug {ι:Inj}:∀ (ps:List Nat) (args:List AV) (cargs:List Value) (t t':Tr AV) (tmps:Array Value),jE ps args t=some t'→VRs ι args cargs→(∀k v,t.get k=some v→∃cv,tmps[k]? =some cv∧VR ι v cv)→(∀p∈ps,p<tmps.size)→
  cargs.length=ps.length∧∀k v,t'.get k=some v→∃cv,((ps.zip cargs).foldl (fun tmps (t,a)=>tmps.setIfInBounds t a) tmps)[k]? =some cv∧VR ι v cv
 |[],[],cargs,t,t',tmps,h,hv,ht,hp=>by
  cases cargs with
  |nil=>simp only[jE,Option.some.injEq] at h;subst h;exact⟨rfl,ht⟩
  |cons _ _=>simp[VRs] at hv
 |[],_::_,cargs,t,t',tmps,h,hv,ht,hp=>by simp[jE] at h
 | _::_,[],cargs,t,t',tmps,h,hv,ht,hp=>by simp[jE] at h
 |p::ps,v::args,cargs,t,t',tmps,h,hv,ht,hp=>by
  cases cargs with
  |nil=>simp[VRs] at hv
  |cons cv cargs=>
   simp only[VRs] at hv
   simp only[jE,kH] at h
   have hlt:=hp p (by simp)
   have ih:=ug ps args cargs _ t' (tmps.setIfInBounds p cv) h hv.2 (fun k u hu=>by
    rcases Tr.df hu with⟨rfl,rfl⟩|⟨hne,hu⟩
    ·exact⟨cv,Array.getElem?_setIfInBounds_self_of_lt hlt,hv.1⟩
    ·obtain⟨c,h1,h2⟩:=ht k u hu
     exact⟨c,by rw[Array.getElem?_setIfInBounds_ne (Ne.symm hne)];exact h1,h2⟩) (fun q hq=>by simpa using hp q (by simp[hq]))
   exact⟨by simp[ih.1],ih.2⟩
theorem EP {ev:Ev}(hev:zV P ev){b:Nat}{args:List AV}{s:St}{r:CR}(h:mQ ev b args s=some r){ι:Inj}{w:World}{cargs:Array Value}(hv:VRs ι args cargs.toList)(hH:HR P ι s w){cb:Nat}{d:WD}(hb:ι b=some (cb,d)):
  ∃fn tmps assign body,(Instr.yield cb cargs).run P w= .ok (.round cb fn tmps assign body) w∧RoundIn (FE P none) 0 P cb fn tmps assign body w (tY P ι s w r):=by
 unfold mQ Er at h
 split at h
 ·rename_i t ps QQ bd0 hg
  obtain⟨hd,r0,N,hw,hex,e1,e2,e3,hst,hN,hN9,hca,hcb,hqa,hqb,hps,ht⟩:=hH.br b cb d _ hb hg
  unfold yl at h
  split at h
  ·rename_i t' hz
   obtain⟨hlen,ht'⟩:=ug ps args cargs.toList t t' r0.tmps hz hv ht (fun p hp=>Nat.lt_of_lt_of_le (hps p hp) hN)
   have hsz:cargs.size=r0.params.size:=by
    rw[←e1] at hlen
    simpa using hlen
   refine⟨_,_,_,_,run_yield hw hsz,B6 (F:=FE P none) hex hex ?_⟩
   have htm:((r0.params.zip cargs).foldl (fun tmps (t,a)=>tmps.setIfInBounds t a) r0.tmps)=((ps.zip cargs.toList).foldl (fun tmps (t,a)=>tmps.setIfInBounds t a) r0.tmps):=by
    rw[←Array.foldl_toList,Array.toList_zip,e1]
   unfold nB at h
   split at h
   ·rename_i fr1 s1 he
    rw[←e2] at he hca hqa
    have hf0:FRN N mB ι ⟨t',[]⟩ {tmps:=(r0.params.zip cargs).foldl (fun tmps (t,a)=>tmps.setIfInBounds t a) r0.tmps,defers:=[]}:=
     ⟨fun k v _ hk=>by rw[htm];exact ht' k v hk, .nil,by rw[htm,ue];exact hN⟩
    refine wpIn_mono (hev _ _ s _ he (some cb) N hN9 hca (.inr hqa) ι _ w hf0 hH) fun e a₁ w₁ ⟨κ,h1,h2,h3,h4⟩=>?_
    cases e<;>simp only at h4
    unfold pS at h
    split at h
    ·rename_i t1 ps1 as1 bd hg1
     have hb1:=h3.le _ _ hb
     obtain⟨_,r1,N1,hw1,hex1,e1',e2',e3',hst1,hN1,hN91,hca1,hcb1,hqa1,hqb1,hps1,ht1⟩:=h2.br b cb d _ hb1 hg1
     refine⟨_,run_beginRound hw1 hst1.1,?_⟩
     have hlt1:cb<w₁.heap.size:=(Array.getElem?_eq_some_iff.mp hw1).1
     obtain⟨p1,p2⟩:=h2.put (w':=w₁.putObj cb (.loop {r1 with state:= .busy})) (ab':= .loop t1 ps1 as1 bd .busy) hb1 hg1 ⟨rfl,rfl⟩ World.putObj_size (fun c hc=>lr c hc)
      ⟨hd,_,N1,World.putObj_heap_same hlt1,hex1,e1',e2',e3',rfl,hN1,hN91,hca1,hcb1,hqa1,hqb1,hps1,ht1⟩ (.other hw1 fun _ _ _=>by simp)
     unfold rP at h
     split at h
     ·rename_i x fr2 s2 he2
      rw[←e3] at he2 hcb hqb
      refine wpIn_mono (hev _ _ _ _ he2 (some cb) N hN9 hcb (.inr hqb) κ _ _ h1 p1) fun e a₂ w₂ ⟨μ,q1,q2,q3,q4⟩=>?_
      unfold vw at h
      split at h
      ·rename_i t2 ps2 as2 bd2 hg2
       have hb2:=q3.le _ _ hb1
       obtain⟨_,r2,N2,hw2,hex2,e1'',e2'',e3'',hst2,hN2,hN92,hca2,hcb2,hqa2,hqb2,hps2,ht2⟩:=q2.br b cb d _ hb2 hg2
       have hlt2:cb<w₂.heap.size:=(Array.getElem?_eq_some_iff.mp hw2).1
       have fin:∀ (j:Option Code) (st:LSt),LR st {r2 with state:=if j.isNone then .ready else .done,pending:=j}→r= .ret (.bool j.isNone) {s2 with h:=s2.h.put b (.loop t2 ps2 as2 bd2 st)}→
         ∃v w',(Instr.endRound cb j).run P w₂= .ok v w'∧tY P ι s w r (.returned v) w':=fun j st hl hr=>by
        obtain⟨z1,z2⟩:=q2.put (w':=w₂.putObj cb (.loop {r2 with state:=if j.isNone then .ready else .done,pending:=j})) (ab':= .loop t2 ps2 as2 bd2 st) hb2 hg2 ⟨rfl,rfl⟩ World.putObj_size (fun c hc=>lr c hc)
         ⟨hd,_,N2,World.putObj_heap_same hlt2,hex2,e1'',e2'',e3'',hl,hN2,hN92,hca2,hcb2,hqa2,hqb2,hps2,ht2⟩ (.other hw2 fun _ _ _=>by simp)
        exact⟨_,_,run_endRound j hw2,_,_,hr,μ,by simp[VR],z1,((h3.trans p2).trans q3).trans z2⟩
       split at h
       ·cases h
        cases e<;>simp only at q4
        exact fin none .ready ⟨rfl,rfl⟩ rfl
       ·cases h
        cases e<;>simp only at q4
        exact fin (some .ret) (.done .ret) ⟨rfl,rfl⟩ rfl
       ·cases h
        cases e<;>simp only at q4
        subst q4
        exact fin (some (.exit _)) (.done (.exit _)) ⟨rfl,rfl⟩ rfl
       ·unfold Je at h
        split at h
        case h_2=>cases h
        rename_i hd0
        cases h
        cases e<;>simp only at q4
        obtain⟨cv,rfl,hcv⟩:=q4
        have hdd:a₂.defers=[]:=by
         have:=q1.d
         simp only[hd0] at this
         exact this.wa
        exact⟨hdd,_,_,rfl,μ,cv,rfl,hcv,q2,(h3.trans p2).trans q3⟩
      ·cases h
     ·cases h
    ·cases h
   ·cases h
  ·cases h
 ·cases h
end
end Go.Am
end
