/-
  A part of the texts.
-/
import Derived.Laws.IdiomStrings
import Derived.Test.YtofohkdkpbigiaaQad
section
namespace Go.Am
section
variable {P:Program}{X:Ctx}(hX:dC P X){ι:Inj}{s:St}{w:World}
theorem we {k a:AV}(h:fA k a=some true):a=k:=by
 unfold fA at h
 split at h
 ·split at h
  ·rename_i hj;simp at h;rw[hj,h]
  ·cases h
 ·simp only[Option.some.injEq] at h
  rename_i x y
  unfold Str.beq at h
  rw[Bool.and_eq_true] at h
  have h1:=Nat.beq_eq.mp h.1
  have h2:=Nat.beq_eq.mp h.2
  cases x;cases y;simp only at h1 h2;rw[h1,h2]
 ·simp at h;rw[h]
 ·cases h
theorem Str.beq_comm (x y:Str):x.beq y=y.beq x:=by
 rw[Bool.eq_iff_iff]
 simp only[Str.beq,Bool.and_eq_true,Nat.beq_eq]
 exact⟨fun h=>⟨h.1.symm,h.2.symm⟩,fun h=>⟨h.1.symm,h.2.symm⟩⟩
theorem vo (a b:AV):fA a b=fA b a:=by
 cases a<;>cases b<;>try rfl
 ·rename_i x y;cases x<;>cases y<;>rfl
 ·rename_i j x k y
  simp only[fA]
  by_cases h:j=k
  ·subst h;simp only[if_true,Option.some.injEq];exact decide_eq_decide.mpr ⟨Eq.symm,Eq.symm⟩
  ·rw[if_neg h,if_neg (Ne.symm h)]
 ·rename_i x y;simp only[fA,Str.beq_comm]
theorem qS {d:TypeDesc}{k a:AV}{ck ca:Value}{b:Bool}(hd:plainKey d k=true)(h:fA k a=some b)(hk:VR ι k ck)(ha:VR ι a ca):Instr.sameNow d ck ca=some b:=by
 unfold fA at h
 split at h
 ·split at h
  ·rename_i hj
   have e1:=hk.int;have e2:=ha.int;subst e1;subst e2;subst hj
   cases d<;>simp[plainKey] at hd
   cases h
   simp only[Instr.sameNow,if_true];congr 1
  ·cases h
 ·obtain⟨ba,rfl,rfl⟩:=hk.str;obtain⟨bc,rfl,rfl⟩:=ha.str
  cases d<;>simp[plainKey] at hd
  cases h
  simp only[Instr.sameNow,Str.CP]
  congr 1
  rw[beq_toListBytes,toList_data,toList_data]
  rw[Bool.eq_iff_iff];simp
 ·have e1:=hk.bool;have e2:=ha.bool;subst e1;subst e2
  cases d<;>simp[plainKey] at hd
  cases h
  simp only[Instr.sameNow]
 ·cases h
theorem E2 {d:TypeDesc}{x y:Value}(h:Instr.sameNow d x y=some true)(n:Nat):Instr.sameBits n y x=true:=by
 unfold Instr.sameNow at h
 split at h
 ·split at h
  ·rename_i hk;simp at h;subst hk;subst h;cases n<;>simp[Instr.sameBits]
  ·cases h
 ·simp only[Option.some.injEq] at h
  rename_i a b
  have hb:(b==a)=true:=by
   rw[beq_toListBytes] at h ⊢
   rw[beq_iff_eq] at h ⊢;exact h.symm
  cases n<;>simpa[Instr.sameBits] using hb
 ·simp only[Option.some.injEq,beq_iff_eq] at h
  subst h;cases n<;>simp[Instr.sameBits]
 ·cases h
theorem ERs.length {es:List (AV×AV)}{l:List MapEntry}(h:ERs ι es l):es.length=l.length:=by
 induction h with
 |nil=>rfl
 |cons _ _ ih=>simp[ih]
theorem ERs.get {es:List (AV×AV)}{l:List MapEntry}(h:ERs ι es l):∀ (i:Nat) (e:MapEntry),l[i]? =some e→∃p,es[i]? =some p∧ER ι p e:=by
 induction h with
 |nil=>intro i e he;simp at he
 |cons h1 _ ih=>
  intro i e he
  cases i with
  |zero=>simp at he;subst he;exact⟨_,rfl,h1⟩
  |succ i=>simp at he;simpa using ih i e he
theorem ERs.get' {es:List (AV×AV)}{l:List MapEntry}(h:ERs ι es l):∀ (i:Nat) (p:AV×AV),es[i]? =some p→∃e,l[i]? =some e∧ER ι p e:=by
 induction h with
 |nil=>intro i e he;simp at he
 |cons h1 _ ih=>
  intro i e he
  cases i with
  |zero=>simp at he;subst he;exact⟨_,rfl,h1⟩
  |succ i=>simp at he;simpa using ih i e he
theorem ERs.set {es:List (AV×AV)}{l:List MapEntry}(h:ERs ι es l):∀ (i:Nat) {p:AV×AV} {e:MapEntry},ER ι p e→ERs ι (es.set i p) (l.set i e):=by
 induction h with
 |nil=>intro i p e _;simp;exact .nil
 |cons h1 h2 ih=>
  intro i p e he
  cases i with
  |zero=>exact .cons he h2
  |succ i=>exact .cons h1 (ih i he)
theorem ERs.erase {es:List (AV×AV)}{l:List MapEntry}(h:ERs ι es l):∀ (i:Nat),ERs ι (es.eraseIdx i) (l.eraseIdx i):=by
 induction h with
 |nil=>intro i;simp;exact .nil
 |cons h1 h2 ih=>
  intro i
  cases i with
  |zero=>exact h2
  |succ i=>exact .cons h1 (ih i)
theorem ERs.snoc {es:List (AV×AV)}{l:List MapEntry}(h:ERs ι es l){p:AV×AV}{e:MapEntry}(he:ER ι p e):ERs ι (es++[p]) (l++[e]):=by
 induction h with
 |nil=>exact .cons he .nil
 |cons h1 _ ih=>exact .cons h1 ih
def At (k:AV)(es:List (AV×AV))(i:Nat):Prop:=∀j p,es[j]? =some p→fA k p.1=some (decide (j=i))
theorem At.Ia {k:AV}{es:List (AV×AV)}{i:Nat}{p:AV×AV}(hd:KD es)(hp:es[i]? =some p)(ht:fA k p.1=some true):At k es i:=by
 intro j q hq
 have e:=we ht
 by_cases hij:j=i
 ·subst hij;rw[hp] at hq;cases hq;simpa using ht
 ·rw[decide_eq_false hij,←e]
  have hlj:j<es.length:=by
   rcases Nat.lt_or_ge j es.length with h|h
   ·exact h
   ·rw[List.getElem?_eq_none h] at hq;cases hq
  have hli:i<es.length:=by
   rcases Nat.lt_or_ge i es.length with h|h
   ·exact h
   ·rw[List.getElem?_eq_none h] at hp;cases hp
  have hqe:es[j]=q:=by rw[List.getElem?_eq_getElem hlj] at hq;exact Option.some.inj hq
  have hpe:es[i]=p:=by rw[List.getElem?_eq_getElem hli] at hp;exact Option.some.inj hp
  have hpw:=List.pairwise_iff_getElem.mp hd
  rcases Nat.lt_or_gt_of_ne hij with h|h
  ·have:=hpw j i hlj hli h
   rw[hqe,hpe] at this
   rw[vo];exact this
  ·have:=hpw i j hli hlj h
   rw[hqe,hpe] at this
   exact this
theorem wA {k v:AV}:∀ {es:List (AV×AV)},nk k es=some (some v)→∃ (i:Nat) (a:AV),es[i]? =some (a,v)∧fA k a=some true
 |[],h=>by simp[nk] at h
 |(a,x)::es,h=>by
  simp only[nk] at h
  split at h
  ·rename_i ht;cases h;exact⟨0,a,rfl,ht⟩
  ·obtain⟨i,b,h1,h2⟩:=wA h;exact⟨i+1,b,by simpa using h1,h2⟩
  ·cases h
theorem vL {k:AV}:∀ {es:List (AV×AV)},nk k es=some none→∀p∈es,fA k p.1=some false
 |[],_,_,hp=>by simp at hp
 |(a,x)::es,h,p,hp=>by
  simp only[nk] at h
  split at h
  ·cases h
  ·rename_i hf
   rcases List.mem_cons.1 hp with rfl|hp
   ·exact hf
   ·exact vL h p hp
  ·cases h
theorem lu {k x:AV}:∀ {es es':List (AV×AV)},nw k x es=some es'→
  (∃ (i:Nat) (a v:AV),es[i]? =some (a,v)∧fA k a=some true∧es'=es.set i (a,x))∨((∀p∈es,fA k p.1=some false)∧es'=es++[(k,x)])
 |[],es',h=>by simp[nw] at h;subst h;exact .inr ⟨by simp,rfl⟩
 |(a,v)::es,es',h=>by
  simp only[nw] at h
  split at h
  ·rename_i ht;cases h;exact .inl ⟨0,a,v,rfl,ht,rfl⟩
  ·rename_i hf
   split at h
   ·rename_i l hl;cases h
    rcases lu hl with⟨i,b,u,h1,h2,rfl⟩|⟨h1,rfl⟩
    ·exact .inl ⟨i+1,b,u,by simpa using h1,h2,rfl⟩
    ·refine .inr ⟨fun p hp=>?_,rfl⟩
     rcases List.mem_cons.1 hp with rfl|hp
     ·exact hf
     ·exact h1 p hp
   ·cases h
  ·cases h
theorem yA {k:AV}:∀ {es es':List (AV×AV)},Hb k es=some es'→
  (∃ (i:Nat) (a v:AV),es[i]? =some (a,v)∧fA k a=some true∧es'=es.eraseIdx i)∨((∀p∈es,fA k p.1=some false)∧es'=es)
 |[],es',h=>by simp[Hb] at h;subst h;exact .inr ⟨by simp,rfl⟩
 |(a,v)::es,es',h=>by
  simp only[Hb] at h
  split at h
  ·rename_i ht;cases h;exact .inl ⟨0,a,v,rfl,ht,rfl⟩
  ·rename_i hf
   split at h
   ·rename_i l hl;cases h
    rcases yA hl with⟨i,b,u,h1,h2,rfl⟩|⟨h1,rfl⟩
    ·exact .inl ⟨i+1,b,u,by simpa using h1,h2,rfl⟩
    ·refine .inr ⟨fun p hp=>?_,rfl⟩
     rcases List.mem_cons.1 hp with rfl|hp
     ·exact hf
     ·exact h1 p hp
   ·cases h
  ·cases h
theorem sg {d:TypeDesc}{ck:Value}:∀ (l:List MapEntry) (i:Nat),(∀e∈l,Instr.sameNow d ck e.key=some false)→Instr.findNow d ck l i=some none
 |[],_,_=>rfl
 |e::l,i,h=>by
  simp only[Instr.findNow,h e (List.mem_cons_self ..)]
  exact sg l (i+1) fun x hx=>h x (List.mem_cons_of_mem _ hx)
theorem rW {d:TypeDesc}{ck:Value}{e0:MapEntry}:∀ (l:List MapEntry) (i:Nat),e0∈l→(∀e∈l,Instr.sameNow d ck e.key=some true∧e=e0∨Instr.sameNow d ck e.key=some false)→Instr.sameNow d ck e0.key=some true→
  ∃j,Instr.findNow d ck l i=some (some (i+j,e0.val))∧l[j]? =some e0
 |[],_,h,_,_=>by simp at h
 |e::l,i,h,hall,h0=>by
  rcases hall e (List.mem_cons_self ..) with⟨ht,rfl⟩|hf
  ·exact⟨0,by simp[Instr.findNow,ht],rfl⟩
  ·have hne:e0∈l:=by
    rcases List.mem_cons.1 h with rfl|h
    ·rw[h0] at hf;cases hf
    ·exact h
   obtain⟨j,h1,h2⟩:=rW l (i+1) hne (fun x hx=>hall x (List.mem_cons_of_mem _ hx)) h0
   refine⟨j+1,?_,by simpa using h2⟩
   simp only[Instr.findNow,hf,h1]
   congr 3;omega
include hX in
theorem ey {t:TypeId}{d:TypeDesc}{k:AV}(hu:X.und t=some d)(hd:plainKey d k=true)(b:Bool)(cv:Value):(Instr.checkKey b 10000 t cv).run P w= .ok () w:=by
 show(Instr.checkKey b (9999+1) t cv).run P w=_
 have:∀n,(Instr.checkKey b (n+1) t cv).run P w= .ok () w:=fun n=>by
  simp only[Instr.checkKey,Sem.run_bind,aL hX hu,Result.andThen_ok]
  cases d<;>first|(simp[plainKey] at hd;done)|(cases cv<;>rfl)
 exact this 9999
theorem tp {es:List (AV×AV)}{l l':List MapEntry}{d:TypeDesc}{k:AV}{ck:Value}{i:Nat}{p:AV×AV}(hp:l'.Perm l)(hr:ERs ι es l')(hd:plainKey d k=true)(hk:VR ι k ck)
  (hat:At k es i)(hi:es[i]? =some p):∃ (e0:MapEntry) (j:Nat),l'[i]? =some e0∧ER ι p e0∧Instr.findNow d ck l 0=some (some (j,e0.val))∧l[j]? =some e0∧Instr.sameNow d ck e0.key=some true:=by
 obtain⟨e0,h1,h2⟩:=hr.get' i p hi
 have h0:Instr.sameNow d ck e0.key=some true:=qS hd (by have:=hat i p hi;simpa using this) hk h2.1
 have hmem:e0∈l:=hp.mem_iff.mp (List.mem_of_getElem? h1)
 obtain⟨j,h3,h4⟩:=rW (d:=d) (ck:=ck) l 0 hmem (fun e he=>by
  have he':=hp.mem_iff.mpr he
  obtain⟨n,hn⟩:=List.getElem?_of_mem he'
  obtain⟨q,hq,hqe⟩:=hr.get n e hn
  have:=qS hd (hat n q hq) hk hqe.1
  by_cases hni:n=i
  ·subst hni
   rw[h1] at hn;cases hn
   exact .inl ⟨h0,rfl⟩
  ·rw[decide_eq_false hni] at this;exact .inr this) h0
 exact⟨e0,j,h1,h2,by simpa using h3,h4,h0⟩
theorem th {es:List (AV×AV)}{l l':List MapEntry}{d:TypeDesc}{k:AV}{ck:Value}(hp:l'.Perm l)(hr:ERs ι es l')(hd:plainKey d k=true)(hk:VR ι k ck)
  (hno:∀p∈es,fA k p.1=some false):Instr.findNow d ck l 0=some none:=by
 refine sg l 0 fun e he=>?_
 have he':=hp.mem_iff.mpr he
 obtain⟨n,hn⟩:=List.getElem?_of_mem he'
 obtain⟨q,hq,hqe⟩:=hr.get n e hn
 exact qS hd (hno q (List.mem_of_getElem? hq)) hk hqe.1
include hX in
theorem iw {t:TypeId}{d:TypeDesc}{ck:Value}{l:List MapEntry}{r:Option (Nat×Value)}(hu:X.und t=some d)(h:Instr.findNow d ck l 0=some r):(Instr.findKey t ck l).run P w= .ok r w:=by
 simp[Instr.findKey,aL hX hu,h]
theorem yy {x:AV}{cx:Value}{es:List (AV×AV)}(h:mapOf x s=some es)(hH:HR P ι s w)(hx:VR ι x cx):
  (cx= .map none∧es=[])∨∃r cb,x= .map (some r)∧cx= .map (some cb)∧ι r=some (cb,0,0)∧s.h.get r=some (.map es)∧KD es∧∃l clock,w.heap[cb]? =some (.map l clock)∧(∃l',l'.Perm l.toList∧ERs ι es l')∧(l.toList.map (·.born)).Nodup∧∀e∈l.toList,e.born<clock:=by
 unfold mapOf at h
 split at h
 ·simp only[VR] at hx;cases h;exact .inl ⟨hx,rfl⟩
 ·rename_i r
  split at h
  ·rename_i es' hg
   cases h
   simp only[VR] at hx
   obtain⟨cb,d,hb,rfl⟩:=hx
   obtain⟨h0,hkd,l,clock,h1,h2⟩:=hH.br r cb d _ hb hg
   subst h0
   exact .inr ⟨r,cb,rfl,rfl,hb,hg,hkd,l,clock,h1,h2⟩
  ·cases h
 ·cases h
include hX in
theorem wM {t:TypeId}{x k:AV}{ok:Bool}{cx ck:Value}{r:OR}(h:eC X t x k ok s=some r)(hH:HR P ι s w)(hx:VR ι x cx)(hk:VR ι k ck):
  iJ P ι s w r ((do pure (.value (←Instr.lookup t cx ck ok)):Sem Next).run P w):=by
 unfold eC at h
 split at h
 ·rename_i kt vt hu
  split at h
  ·rename_i d es hd hm
   split at h
   ·rename_i hpl
    have main:∀ (l:Array MapEntry),KD es→(∃l',l'.Perm l.toList∧ERs ι es l')→
      ∃ (fk:Option (Nat×Value)) (v:AV) (b:Bool) (cv:Value),(Instr.findKey kt ck l.toList).run P w= .ok fk w∧oM ok v b=some r∧VR ι v cv∧((∃j,fk=some (j,cv)∧b=true)∨(fk=none∧b=false∧(zeroValue vt).run P w= .ok cv w)):=fun l hkd ⟨l',hp,hr⟩=>by
     unfold vq at h
     split at h
     ·rename_i v hf
      obtain⟨i,a,hi,ht⟩:=wA hf
      obtain⟨e0,j,_,her,hfn,_,_⟩:=tp hp hr hpl hk (At.Ia hkd hi ht) hi
      exact⟨_,v,true,e0.val,iw hX hd hfn,h,her.2, .inl ⟨j,rfl,rfl⟩⟩
     ·rename_i hf
      split at h
      ·rename_i z hz
       obtain⟨cz,h1,rfl⟩:=fv hX hz w
       exact⟨_,_,false,cz,iw hX hd (th hp hr hpl hk (vL hf)),h,ju ι cz, .inr ⟨rfl,rfl,h1⟩⟩
      ·cases h
     ·cases h
    rcases yy hm hH hx with⟨rfl,rfl⟩|⟨r',cb,rfl,rfl,_,_,hkd,l,clock,h1,h2,_⟩
    ·obtain⟨fk,v,b,cv,h3,h4,h5,⟨j,rfl,rfl⟩|⟨rfl,rfl,h6⟩⟩:=main #[] .nil ⟨[], .nil, .nil⟩
     ·refine jQ h4 h5 ?_
      simp only[Instr.lookup,Sem.run_bind,aL hX hu,Result.andThen_ok,Sem.run_pure,ey hX hd hpl,h3]
     ·refine jQ h4 h5 ?_
      simp only[Instr.lookup,Sem.run_bind,aL hX hu,Result.andThen_ok,Sem.run_pure,ey hX hd hpl,h3,h6]
    ·have hg:(getObj cb).run P w= .ok (.map l clock) w:=by simp[getObj,Sem.run,h1]
     obtain⟨fk,v,b,cv,h3,h4,h5,⟨j,rfl,rfl⟩|⟨rfl,rfl,h6⟩⟩:=main l hkd h2
     ·refine jQ h4 h5 ?_
      simp only[Instr.lookup,Sem.run_bind,aL hX hu,Result.andThen_ok,Sem.run_pure,hg,ey hX hd hpl,h3]
     ·refine jQ h4 h5 ?_
      simp only[Instr.lookup,Sem.run_bind,aL hX hu,Result.andThen_ok,Sem.run_pure,hg,ey hX hd hpl,h3,h6]
   ·cases h
  ·cases h
 ·cases h
theorem AK {α:Type}{l:List α}:∀ {j:Nat} {e x:α},l[j]? =some e→∃r,l.Perm (e::r)∧(l.set j x).Perm (x::r)∧(l.eraseIdx j).Perm r:=by
 induction l with
 |nil=>intro j e x h;simp at h
 |cons a l ih=>
  intro j e x h
  cases j with
  |zero=>simp at h;subst h;exact⟨l, .refl _, .refl _, .refl _⟩
  |succ j=>
   simp at h
   obtain⟨r,h1,h2,h3⟩:=ih (x:=x) h
   refine⟨a::r,?_,?_,?_⟩
   ·exact(h1.cons a).trans (.swap _ _ _)
   ·exact(h2.cons a).trans (.swap _ _ _)
   ·simpa using h3.cons a
theorem yw {α:Type}{l l':List α}(hp:l'.Perm l){i j:Nat}{e x:α}(hi:l'[i]? =some e)(hj:l[j]? =some e):(l'.set i x).Perm (l.set j x)∧(l'.eraseIdx i).Perm (l.eraseIdx j):=by
 obtain⟨r,a1,a2,a3⟩:=AK (x:=x) hi
 obtain⟨q,b1,b2,b3⟩:=AK (x:=x) hj
 have:r.Perm q:=(List.perm_cons e).mp ((a1.symm.trans hp).trans b1)
 exact⟨(a2.trans (this.cons x)).trans b2.symm,(a3.trans this).trans b3.symm⟩
theorem KD.set {es:List (AV×AV)}{i:Nat}{a v x:AV}(h:KD es)(hi:es[i]? =some (a,v)):KD (es.set i (a,x)):=by
 unfold KD at*
 rw[List.pairwise_iff_getElem] at*
 intro m n hm hn hmn
 have key:∀q (hq:q<(es.set i (a,x)).length),((es.set i (a,x))[q]).1=(es[q]'(by simpa using hq)).1:=fun q hq=>by
  rw[List.getElem_set]
  split
  ·rename_i e;subst e
   have:es[i]'(by simpa using hq)=(a,v):=by
    rw[List.getElem?_eq_getElem (by simpa using hq)] at hi;exact Option.some.inj hi
   rw[this]
  ·rfl
 rw[key m hm,key n hn]
 exact h m n _ _ hmn
theorem KD.erase {es:List (AV×AV)}(h:KD es)(i:Nat):KD (es.eraseIdx i):=List.Pairwise.sublist (List.eraseIdx_sublist _ _) h
theorem KD.snoc {es:List (AV×AV)}{k x:AV}(h:KD es)(hno:∀p∈es,fA k p.1=some false):KD (es++[(k,x)]):=by
 unfold KD at*
 rw[List.pairwise_append]
 refine⟨h,by simp,fun p hp q hq=>?_⟩
 simp at hq;subst hq
 rw[vo];exact hno p hp
include hX in
theorem o0 {t:TypeId}{m k v:AV}{cm ck cv:Value}{r:OR}(h:fB X t m k v s=some r)(hH:HR P ι s w)(hm:VR ι m cm)(hk:VR ι k ck)(hv:VR ι v cv):
  iJ P ι s w r ((do Instr.mapUpdate t cm ck cv;pure .skip:Sem Next).run P w):=by
 unfold fB at h
 split at h
 ·cases h
 ·split at h
  ·rename_i kt vt mr hu
   split at h
   ·rename_i d es hd hg
    split at h
    ·rename_i es' hpl hput
     cases h
     simp only[VR] at hm
     obtain⟨cb,dd,hb,rfl⟩:=hm
     obtain⟨h0,hkd,l,clock,h1,⟨l',hp,hr⟩,hnd,hbc⟩:=hH.br mr cb dd _ hb hg
     subst h0
     have hg':(getObj cb).run P w= .ok (.map l clock) w:=by simp[getObj,Sem.run,h1]
     have hset:∀o,(setObj cb o).run P w= .ok () {w with heap:=w.heap.setIfInBounds cb o}:=fun o=>by simp[setObj,Sem.run,h1]
     have hcb:cb<w.heap.size:=(hH.br mr cb (0,0) _ hb hg).lt
     have fin:∀ (l2:Array MapEntry) (k2:Nat),(Instr.mapUpdate t (.map (some cb)) ck cv).run P w= .ok () {w with heap:=w.heap.setIfInBounds cb (.map l2 k2)}→KD es'→(∃l',l'.Perm l2.toList∧ERs ι es' l')→(l2.toList.map (·.born)).Nodup→(∀e∈l2.toList,e.born<k2)→
       iJ P ι s w (.val (.tup []) (s.xh mr es')) ((do Instr.mapUpdate t (.map (some cb)) ck cv;pure .skip:Sem Next).run P w):=fun l2 k2 hrun hkd' hp' hnd' hbc'=>by
      have hs:s.xh mr es'={s with h:=s.h.put mr (.map es')}:=by simp[St.xh]
      rw[hs]
      obtain⟨g1,g2⟩:=hH.put (w':={w with heap:=w.heap.setIfInBounds cb (.map l2 k2)}) hb hg ⟨rfl,rfl⟩ (by simp) (fun c hc=>by simp[Array.getElem?_setIfInBounds_ne (Ne.symm hc)])
       (ab':= .map es') ⟨rfl,hkd',l2,k2,by simp[hcb],hp',hnd',hbc'⟩
      exact⟨_,_,undef, .inr ⟨Bi hrun,rfl⟩,by simp only[VR,undef];exact⟨_,rfl,by simp[VRs]⟩,g1,g2⟩
     rcases lu hput with⟨i,a,u,hi,ht,rfl⟩|⟨hno,rfl⟩
     ·obtain⟨e0,j,h2,her,hfn,hj,hsame⟩:=tp hp hr hpl hk (At.Ia hkd hi ht) hi
      have hjl:l[j]? =some e0:=by simpa using hj
      have hkts:(Instr.keyThatStays e0.key ck).run P w= .ok ck w:=by
       simp only[Instr.keyThatStays,E2 hsame,if_true,Sem.run_pure]
      refine fin (l.modify j fun e=>{e with key:=ck,val:=cv}) clock ?_ (hkd.set hi) ?_ ?_ ?_
      ·simp only[Instr.mapUpdate,Sem.run_bind,aL hX hu,Result.andThen_ok,hg',ey hX hd hpl,iw hX hd hfn,hjl,Option.map_some,Option.getD_some,hkts,hset]
      ·have hl2:(l.modify j fun e=>{e with key:=ck,val:=cv}).toList=l.toList.set j {e0 with key:=ck,val:=cv}:=by
        rw[Array.toList_modify]
        apply List.ext_getElem?
        intro n
        rw[List.getElem?_modify,List.getElem?_set]
        by_cases hn:j=n
        ·subst hn
         have hlt:j<l.toList.length:=by
          rcases Nat.lt_or_ge j l.toList.length with h'|h'
          ·exact h'
          ·rw[List.getElem?_eq_none h'] at hj;cases hj
         have hlt':j<l.size:=by simpa using hlt
         have hje:l[j]=e0:=by
          rw[Array.getElem?_eq_getElem hlt'] at hjl;exact Option.some.inj hjl
         simp[hlt',hje]
        ·simp[hn]
       rw[hl2]
       refine⟨l'.set i {e0 with key:=ck,val:=cv},(yw hp h2 hj).1,hr.set i ⟨?_,hv⟩⟩
       have:=we ht;subst this;exact hk
      ·have:(l.modify j fun e=>{e with key:=ck,val:=cv}).toList.map (·.born)=l.toList.map (·.born):=by
        rw[Array.toList_modify]
        apply List.ext_getElem?
        intro n
        simp only[List.getElem?_map,List.getElem?_modify]
        by_cases hn:j=n
        ·subst hn;simp[hj]
        ·simp[hn]
       rw[this];exact hnd
      ·intro e he
       obtain⟨n,hn⟩:=List.getElem?_of_mem he
       rw[Array.toList_modify,List.getElem?_modify] at hn
       by_cases hjn:j=n
       ·subst hjn
        simp[hjl] at hn;subst hn
        exact hbc e0 (List.mem_of_getElem? hj)
       ·simp[hjn] at hn
        exact hbc e (List.mem_of_getElem? (l:=l.toList) (i:=n) (by simpa using hn))
     ·have hfn:=th hp hr hpl hk hno
      refine fin (l.push {key:=ck,val:=cv,born:=clock}) (clock+1) ?_ (hkd.snoc hno) ?_ ?_ ?_
      ·simp only[Instr.mapUpdate,Sem.run_bind,aL hX hu,Result.andThen_ok,hg',ey hX hd hpl,iw hX hd hfn,hset]
      ·refine⟨l'++[{key:=ck,val:=cv,born:=clock}],?_,hr.snoc ⟨hk,hv⟩⟩
       rw[Array.toList_push]
       exact hp.append_right _
      ·rw[Array.toList_push,List.map_append,List.nodup_append]
       refine⟨hnd,by simp,fun x hx y hy=>?_⟩
       simp at hy;subst hy
       obtain⟨e,he,rfl⟩:=List.mem_map.mp hx
       have:=hbc e he;omega
      ·intro e he
       rw[Array.toList_push] at he
       rcases List.mem_append.mp he with he|he
       ·have:=hbc e he;omega
       ·simp at he;subst he;simp
    ·cases h
   ·cases h
  ·cases h
include hX in
theorem AQ {t ty:TypeId}{ts:Array TypeId}{m k:AV}{cm ck:Value}{r:OR}(h:I2 X t m k s=some r)(hts:ts[0]? =some t)(hH:HR P ι s w)(hm:VR ι m cm)(hk:VR ι k ck):
  iJ P ι s w r ((do pure (.value (←Builtin.delete_ ts ty #[cm,ck])):Sem Next).run P w):=by
 unfold I2 at h
 split at h
 ·rename_i mr kt vt hu
  split at h
  ·rename_i d es hd hg
   split at h
   ·rename_i es' hpl hdel
    cases h
    simp only[VR] at hm
    obtain⟨cb,dd,hb,rfl⟩:=hm
    obtain⟨h0,hkd,l,clock,h1,⟨l',hp,hr⟩,hnd,hbc⟩:=hH.br mr cb dd _ hb hg
    subst h0
    have hg':(getObj cb).run P w= .ok (.map l clock) w:=by simp[getObj,Sem.run,h1]
    have hset:∀o,(setObj cb o).run P w= .ok () {w with heap:=w.heap.setIfInBounds cb o}:=fun o=>by simp[setObj,Sem.run,h1]
    have hcb:cb<w.heap.size:=(hH.br mr cb (0,0) _ hb hg).lt
    have fin:∀ (l2:Array MapEntry),(Builtin.delete_ ts ty #[.map (some cb),ck]).run P w= .ok (.tuple #[]) {w with heap:=w.heap.setIfInBounds cb (.map l2 clock)}→KD es'→(∃l',l'.Perm l2.toList∧ERs ι es' l')→(l2.toList.map (·.born)).Nodup→(∀e∈l2.toList,e.born<clock)→
      iJ P ι s w (.val (.tup []) (s.xh mr es')) ((do pure (.value (←Builtin.delete_ ts ty #[.map (some cb),ck])):Sem Next).run P w):=fun l2 hrun hkd' hp' hnd' hbc'=>by
     have hs:s.xh mr es'={s with h:=s.h.put mr (.map es')}:=by simp[St.xh]
     rw[hs]
     obtain⟨g1,g2⟩:=hH.put (w':={w with heap:=w.heap.setIfInBounds cb (.map l2 clock)}) hb hg ⟨rfl,rfl⟩ (by simp) (fun c hc=>by simp[Array.getElem?_setIfInBounds_ne (Ne.symm hc)])
      (ab':= .map es') ⟨rfl,hkd',l2,clock,by simp[hcb],hp',hnd',hbc'⟩
     exact⟨_,_, .tuple #[], .inl (bp hrun),by simp only[VR];exact⟨_,rfl,by simp[VRs]⟩,g1,g2⟩
    rcases yA hdel with⟨i,a,u,hi,ht,rfl⟩|⟨hno,rfl⟩
    ·obtain⟨e0,j,h2,her,hfn,hj,hsame⟩:=tp hp hr hpl hk (At.Ia hkd hi ht) hi
     have hsub:(l.toList.eraseIdx j).Sublist l.toList:=List.eraseIdx_sublist _ _
     refine fin (l.eraseIdxIfInBounds j) ?_ (hkd.erase i) ?_ ?_ ?_
     ·simp only[Builtin.delete_,hts,List.getElem?_toArray,List.getElem?_cons_zero,List.getElem?_cons_succ,Sem.run_bind,aL hX hu,Result.andThen_ok,hg',ey hX hd hpl,iw hX hd hfn,hset,Sem.run_pure]
     ·rw[Array.toList_eraseIdxIfInBounds]
      exact⟨_,(yw (x:=e0) hp h2 hj).2,hr.erase i⟩
     ·rw[Array.toList_eraseIdxIfInBounds]
      exact hnd.sublist (hsub.map _)
     ·intro e he
      rw[Array.toList_eraseIdxIfInBounds] at he
      exact hbc e (hsub.mem he)
    ·have hfn:=th hp hr hpl hk hno
     refine fin l ?_ hkd ⟨l',hp,hr⟩ hnd hbc
     simp only[Builtin.delete_,hts,List.getElem?_toArray,List.getElem?_cons_zero,List.getElem?_cons_succ,Sem.run_bind,aL hX hu,Result.andThen_ok,hg',ey hX hd hpl,iw hX hd hfn,hset,Sem.run_pure]
   ·cases h
  ·cases h
 ·cases h
end
end Go.Am
end
section
namespace Go.Am
section
variable {P:Program}{X:Ctx}(hX:dC P X){ι:Inj}{s:St}{w:World}
theorem qZ (bs:ByteArray):∀n,n≤bs.data.toList.length→fM (Str.of bs) n=(bs.data.toList.drop (bs.data.toList.length- n)).map fun b=>AV.int .u8 (b.toNat:Int)
 |0,_=>by simp[fM]
 |n+1,h=>by
  simp only[fM]
  have hlt:bs.data.toList.length- (n+1)<bs.data.toList.length:=by omega
  have hl:(Str.of bs).len=bs.data.toList.length:=rfl
  rw[qZ bs n (by omega),hl,Gv hlt,List.drop_eq_getElem_cons hlt]
  have e:bs.data.toList.length- (n+1)+1=bs.data.toList.length- n:=by omega
  rw[e];simp
theorem mH (bs:ByteArray):fM (Str.of bs) (Str.of bs).len=bs.data.toList.map fun b=>AV.int .u8 (b.toNat:Int):=by
 have:=qZ bs (Str.of bs).len (Nat.le_refl _)
 simpa[Str.of] using this
theorem Fh (l:List UInt8):VRs ι (l.map fun b=>AV.int .u8 (b.toNat:Int)) (l.map fun b=>Value.int .u8 (b.toNat:Int)):=by
 induction l with
 |nil=>simp[VRs]
 |cons b l ih=>simp only[List.map_cons,VRs];exact⟨by simp[VR],ih⟩
theorem rh {size n:Nat}{y:AV}{cy:Value}{new:List AV}(h:bb s size y=some (n,new))(hH:HR P ι s w)(hy:VR ι y cy):
  ∃news:List Value,(Builtin.firstCells size n cy).run P w= .ok news.toArray w∧VRs ι new news∧(Builtin.lenOf cy).run P w= .ok n w∧new.length=n*size:=by
 unfold bb at h
 split at h
 ·rename_i m c x
  simp only[VR] at hy;obtain⟨rfl,rfl,rfl,rfl⟩:=hy
  simp at h;obtain⟨rfl,rfl⟩:=h
  exact⟨[],by simp[Builtin.firstCells],by simp[VRs],by simp[Builtin.lenOf],by simp⟩
 ·rename_i b off es m c x
  simp only[VR] at hy
  obtain⟨cb,d,o,cm,hb,rfl,ho,hn,hc,hx,hr⟩:=hy
  split at h
  ·rename_i h0
   have h0:=Nat.beq_eq.mp h0
   subst h0
   cases h
   exact⟨[],by simp[Builtin.firstCells,loadCells,loadCellsFrom],by simp[VRs],by simp[Builtin.lenOf],by simp⟩
  ·rename_i h0
   have h0:m≠0:=fun e=>by rw[e] at h0;simp at h0
   split at h
   ·rename_i c' k hcells
    split at h
    ·rename_i l hl
     cases h
     have ho:=ho (.inl (by omega))
     subst ho
     obtain⟨vs,h1,h2⟩:=zr (P:=P) hH ⟨b,hb,hcells⟩ hl
     exact⟨vs,by simpa[Builtin.firstCells] using h1,h2,by simp[Builtin.lenOf],(m4 hl).1⟩
    ·cases h
   ·cases h
 ·obtain⟨bs,rfl,rfl⟩:=hy.str
  split at h
  ·rename_i h1
   have h1:=Nat.beq_eq.mp h1
   subst h1
   cases h
   refine⟨bs.data.toList.map fun b=>Value.int .u8 (b.toNat:Int),?_,?_,by simp[Builtin.lenOf,Str.of],?_⟩
   ·simp only[Builtin.firstCells,Sem.run_pure]
    congr 1
    have:bs.extract 0 (Str.of bs).len=bs:=by
     have:(Str.of bs).len=bs.size:=by simp[Str.of]
     rw[this];exact ByteArray.extract_zero_size
    rw[this]
    apply Array.ext'
    simp
   ·rw[mH];exact Fh _
   ·rw[mH];simp[Str.of]
  ·cases h
 ·cases h
theorem HR.drew (h:HR P ι s w):HR P ι s w.drew:=h.heap rfl
theorem grownCap_ge (w:World)(need old:Nat)(e:TypeId):need≤grownCap w need old e:=by
 simp only[grownCap,Question.cut];omega
include hX in
theorem wg {t u ty e:TypeId}{rest:List TypeId}{size n len ccap:Nat}{base:Option Addr}{cy:Value}{olds news:List Value}(hu:X.und t=some (.slice e))(hi:∀d,X.und u=some d→∀k,d≠ .int k)(hu2:∃d,X.und u=some d)
  (he:X.elem e=some size)(hl:(Builtin.lenOf cy).run P w= .ok n w)(ho:(Builtin.firstCells size len (.slice base len ccap)).run P w.drew= .ok olds.toArray w.drew)(hn:(Builtin.firstCells size n cy).run P w.drew= .ok news.toArray w.drew)
  (hno:¬len+n≤ccap)(hsmall:len+n≤1000000):
  ∃zc:Array Value,zc.size=size∧(Builtin.append_ (t::u::rest).toArray ty #[.slice base len ccap,cy]).run P w=
   .ok (.slice (some ⟨w.heap.size,0,none⟩) (len+n) (grownCap w (len+n) ccap e)) (w.drew.alloc (.cells (olds.toArray++news.toArray++Builtin.zeroCells zc (grownCap w (len+n) ccap e- (len+n))) e)):=by
 obtain⟨i,hti,hsz,hby,hpos,z,hz,hzs⟩:=lv he
 refine⟨z.cells,hzs,?_⟩
 obtain⟨d,hd⟩:=hu2
 have hni:=hi d hd
 have hcap:=nextslicecap_le (need:=len+n) (old:=ccap) (by omega)
 have hb:¬(2^48<Builtin.nextslicecap (len+n) ccap*i.bytes):=by
  have h1:Builtin.nextslicecap (len+n) ccap*i.bytes≤(2*1000000)*1048576:=Nat.mul_le_mul (by omega) hby
  omega
 have hmax:¬(IntKind.i64.max<((len+n:Nat):Int)):=by
  simp only[IntKind.max,IntKind.signed,IntKind.bits,if_true];omega
 have hzv:(zeroValue e).run P w.drew= .ok z w.drew:=by simp[zeroValue,run_typeInfo hX hti,hz]
 simp only[Builtin.append_,List.getElem?_toArray,List.getElem?_cons_zero,List.getElem?_cons_succ,Sem.run_bind,aL hX hu,aL hX hd,Result.andThen_ok,cK hX (m6 he),Sem.run_pure]
 have hq:({w with drawn:=w.drawn+1}:World)=w.drew:=rfl
 simp only[Bool.false_eq_true,if_false,hl,Result.andThen_ok,hno,false_or,Sem.run_ite,Sem.run_bind,gt_iff_lt,hmax,false_and,run_typeInfo hX hti,hb,run_choose,Question.forced,run_askRoom,hq,Sem.run_pure,Bool.not_false,if_true]
 simp only[ho,hn,hzv,Result.andThen_ok,newRow,Sem.run_bind,run_newObj,Sem.run_pure]
 rfl
include hX in
theorem run_append_room {t u ty e:TypeId}{rest:List TypeId}{size n len ccap:Nat}{base:Option Addr}{cy:Value}{news:List Value}{w':World}(hu:X.und t=some (.slice e))(hi:∀d,X.und u=some d→∀k,d≠ .int k)(hu2:∃d,X.und u=some d)
  (he:X.elem e=some size)(hl:(Builtin.lenOf cy).run P w= .ok n w)(hn:(Builtin.firstCells size n cy).run P w= .ok news.toArray w)(hno:len+n≤ccap)
  (hst:(match base with|some a=>storeCells (a.add (len*size)) news|none=>pure ():Sem Unit).run P w= .ok () w'):
  (Builtin.append_ (t::u::rest).toArray ty #[.slice base len ccap,cy]).run P w= .ok (.slice base (len+n) ccap) w':=by
 obtain⟨d,hd⟩:=hu2
 have hni:=hi d hd
 simp only[Builtin.append_,List.getElem?_toArray,List.getElem?_cons_zero,List.getElem?_cons_succ,Sem.run_bind,aL hX hu,aL hX hd,Result.andThen_ok,cK hX (m6 he),Sem.run_pure]
 simp only[Bool.false_eq_true,if_false,hl,Result.andThen_ok,hno,if_true,Sem.run_ite,Sem.run_bind,Bool.not_false,hn]
 cases base with
 |none=>simp only[Sem.run_pure,Result.ok.injEq,true_and] at hst;subst hst;simp
 |some a=>simp only at hst;simp[hst]
theorem tQ {off len size m:Nat}{c c':Tr AV}{new:List AV}(h:jT off len size m c new=some c')(hm:∀i v,c.get i=some v→i<m):
  (∃old,ldL c off (len*size)=some old)∧∀i v,c'.get i=some v→(i<len*size∧c.get (off+i)=some v)∨(len*size≤i∧new[i- len*size]? =some v):=by
 unfold jT at h
 split at h
 ·rename_i hc
  rw[Bool.and_eq_true] at hc
  have h1:=Nat.beq_eq.mp hc.1
  have h2:=Nat.beq_eq.mp hc.2
  subst h1
  split at h
  ·rename_i old hold
   cases h
   refine⟨⟨old,hold⟩,fun i v hi=>?_⟩
   rcases Tr.im new _ c i v hi with⟨a,b⟩|⟨a,b⟩
   ·exact .inr ⟨a,b⟩
   ·exact .inl ⟨by rw[←h2];exact hm i v b,by simpa using b⟩
  ·cases h
 ·split at h
  ·rename_i old hold
   cases h
   obtain⟨hl,hg⟩:=m4 hold
   refine⟨⟨old,hold⟩,fun i v hi=>?_⟩
   have hi:=Tr.df hi
   by_cases hlt:i<len*size
   ·rw[List.getElem?_append_left (by omega)] at hi
    exact .inl ⟨hlt,hg i v hi⟩
   ·rw[List.getElem?_append_right (by omega),hl] at hi
    exact .inr ⟨by omega,hi⟩
  ·cases h
include hX in
theorem uv {t u ty e:TypeId}{ik:IntKind}{rest:List TypeId}{size k len ccap:Nat}{base:Option Addr}{olds:List Value}(hu:X.und t=some (.slice e))(hi:X.und u=some (.int ik))
  (he:X.elem e=some size)(ho:(Builtin.firstCells size len (.slice base len ccap)).run P w.drew= .ok olds.toArray w.drew)
  (hno:¬len+k≤ccap)(hk:k≠0)(hsmall:len+k≤1000000){zc:Value}(hz:(zeroValue e).run P w.drew= .ok zc w.drew):
  (Builtin.append_ (t::u::rest).toArray ty #[.slice base len ccap, .int .i64 (k:Int)]).run P w=
   .ok (.slice (some ⟨w.heap.size,0,none⟩) (len+k) (grownCap w (len+k) ccap e)) (w.drew.alloc (.cells (olds.toArray++Builtin.zeroCells zc.cells k++Builtin.zeroCells zc.cells (grownCap w (len+k) ccap e- (len+k))) e)):=by
 obtain⟨i,hti,hsz,hby,hpos,_⟩:=lv he
 have hcap:=nextslicecap_le (need:=len+k) (old:=ccap) (by omega)
 have hb:¬(2^48<Builtin.nextslicecap (len+k) ccap*i.bytes):=by
  have h1:Builtin.nextslicecap (len+k) ccap*i.bytes≤(2*1000000)*1048576:=Nat.mul_le_mul (by omega) hby
  omega
 have hmax:¬(IntKind.i64.max<((len+k:Nat):Int)):=by
  simp only[IntKind.max,IntKind.signed,IntKind.bits,if_true];omega
 have hwk:IntKind.i64.wrap (k:Int)=k:=by
  have:fits .i64 (.ofNat k)=true:=by simp[fits,Nat.blt_eq];omega
  exact iu this
 have hneg:¬((k:Int)<0):=by omega
 have hbz:¬((2:Int)^48<(k:Int)*(i.bytes:Int)):=by
  have h1:k*i.bytes≤1000000*1048576:=Nat.mul_le_mul (by omega) hby
  have h2:((k*i.bytes:Nat):Int)≤((1000000*1048576:Nat):Int):=by exact_mod_cast h1
  rw[Int.natCast_mul] at h2
  omega
 have hks:¬(k*size=0):=by
  intro h0
  rcases Nat.mul_eq_zero.mp h0 with h|h<;>omega
 simp only[Builtin.append_,List.getElem?_toArray,List.getElem?_cons_zero,List.getElem?_cons_succ,Sem.run_bind,aL hX hu,aL hX hi,Result.andThen_ok,cK hX (m6 he),Sem.run_pure]
 have hq:({w with drawn:=w.drawn+1}:World)=w.drew:=rfl
 simp only[if_true,asInt,asIntOf,Sem.run_bind,Sem.run_pure,Result.andThen_ok,hwk,Sem.run_ite,hneg,if_false,run_typeInfo hX hti,gt_iff_lt,hbz,Int.toNat_natCast,hno,hmax,false_and,hb,run_choose,Question.forced,run_askRoom,hq,Bool.not_true,Bool.false_eq_true,hks,true_or,and_true]
 simp only[ho,hz,Result.andThen_ok,newRow,Sem.run_bind,run_newObj,Sem.run_pure]
 rfl
include hX in
theorem xe {t u ty:TypeId}{ik:IntKind}{rest:List TypeId}{x y:AV}{cx cy:Value}{r:OR}(h:sF X t x y s=some r)(hi:X.und u=some (.int ik))(hH:HR P ι s w)(hx:VR ι x cx)(hy:VR ι y cy):
  iJ P ι s w r ((do pure (.value (←Builtin.append_ (t::u::rest).toArray ty #[cx,cy])):Sem Next).run P w):=by
 unfold sF at h
 split at h
 ·rename_i b len cap k
  have hyy:=hy.int
  subst hyy
  split at h
  ·rename_i e hu
   split at h
   ·rename_i size z he hz
    split at h
    ·rename_i hc
     simp only[Bool.and_eq_true] at hc
     obtain⟨c1,c2,c3,c4⟩:=hc
     have c1:=Nat.blt_eq.mp c1
     have c2:=Nat.ble_eq.mp c2
     have c4:=Nat.beq_eq.mp c4
     unfold kW at h
     split at h
     ·rename_i hnone;cases hnone
     ·rename_i b off es eb
      cases eb
      split at h
      ·rename_i c m hes hcb
       have hes:=Nat.beq_eq.mp hes
       subst hes
       unfold qX at h
       split at h
       ·rename_i c' hold
        cases h
        simp only[VR] at hx
        obtain⟨cb,d,o,m0,hb,rfl,ho,hle1,hle2,hexx,hrm⟩:=hx
        have hm0:m0=cap:=by simpa using hexx
        subst hm0
        obtain⟨cs,el,fz,k1,k0,k2⟩:=hH.cells hb hcb
        obtain⟨⟨old,hld⟩,hc'⟩:=tQ hold (fun i v hv=>(k2 i v hv).1)
        have hoo:o=d.1+off:=by simpa using ho
        subst hoo
        obtain⟨cz,z1,rfl⟩:=fv hX hz w.drew
        have hzc:=(ju ι cz).cells (fE c3)
        have hzs:cz.cells.size=es:=by have:=hzc.length;simp at this;omega
        obtain⟨vs,g1,g2⟩:=zr (P:=P) hH.drew ⟨b,hb,hcb⟩ hld
        obtain⟨q1,q2⟩:=m4 hld
        have holds:vs.length=len*es:=by rw[←g2.length,q1]
        have hrun:=uv hX (ty:=ty) (rest:=rest) hu hi he (olds:=vs) (len:=len) (ccap:=m0) (base:=some ⟨cb,d.1+off,none⟩) (k:=k) (by simpa[Builtin.firstCells] using g1) (by omega) (by omega) c2 z1
        have hge:=grownCap_ge w (len+k) m0 e
        generalize grownCap w (len+k) m0 e=G at hrun hge
        have hrep:=pe hzc k
        have hzl:(Builtin.zeroCells cz.cells k).size=k*es:=by simp[Builtin.zeroCells,hzs]
        have hrow:(vs.toArray++Builtin.zeroCells cz.cells k++Builtin.zeroCells cz.cells (G- (len+k))).size=G*es:=by
         simp only[Array.size_append,List.size_toArray,holds,Builtin.zeroCells,Array.size_map,Array.size_range,hzs]
         rw[←Nat.add_mul,←Nat.add_mul];congr 1;omega
        have hw:(w.drew.alloc (.cells (vs.toArray++Builtin.zeroCells cz.cells k++Builtin.zeroCells cz.cells (G- (len+k))) e)).heap=w.heap.push (.cells (vs.toArray++Builtin.zeroCells cz.cells k++Builtin.zeroCells cz.cells (G- (len+k))) e):=rfl
        have e1:s.jN c' ((len+k)*es+cf m)=s.new (.cells c' ((len+k)*es+cf m)):=by simp[St.jN]
        simp only[e1]
        obtain⟨f1,f2⟩:=hH.new (z:=G*es) hw ⟨rfl,rfl⟩ (ab:= .cells c' ((len+k)*es+cf m)) (fun κ hκ=>by
         refine⟨_,e,(0,0),by rw[hw];exact dM,fun j hj=>⟨by rw[hrow];exact hj,by simp⟩,fun i v hiv=>?_,fun _=>by simp⟩
         have hmul:(len+k)*es=len*es+k*es:=Nat.add_mul _ _ _
         have hGm:(len+k)*es≤G*es:=Nat.mul_le_mul_right _ hge
         rcases hc' i v hiv with⟨a1,a2⟩|⟨a1,a2⟩
         ·have hi':i<old.length:=by omega
          have h3:=q2 i old[i] (by simp[hi'])
          rw[h3] at a2
          obtain⟨cv,a3,a4⟩:=g2.get (show old[i]? =some v by rw[List.getElem?_eq_getElem hi'];exact a2)
          refine⟨by omega,by simp only;omega,cv,?_,a4.mono hκ⟩
          simp only[Nat.zero_add]
          rw[Array.getElem?_append_left (by simp;omega),Array.getElem?_append_left (by simp;omega)]
          simpa using a3
         ·obtain⟨cv,a3,a4⟩:=hrep.get a2
          have hlt:i- len*es<k*es:=by
           rcases Nat.lt_or_ge (i- len*es) (k*es) with h'|h'
           ·exact h'
           ·rw[List.getElem?_eq_none (by simp[hzs];omega)] at a3;cases a3
          refine⟨by omega,by simp only;omega,cv,?_,a4.mono hκ⟩
          simp only[Nat.zero_add]
          rw[Array.getElem?_append_left (by simp only[Array.size_append,List.size_toArray,holds,hzl];omega),Array.getElem?_append_right (by simp;omega)]
          simp only[List.size_toArray,holds]
          rw[Array.getElem?_toList] at a3
          exact a3)
        refine⟨_,_,_, .inl (bp hrun),?_,f1,f2⟩
        simp only[VR,St.new]
        exact⟨_,_,_,_,Inj.dr _ _ _,rfl,fun _=>rfl,Nat.le_refl _,hge,(fun e=>by cases e),by simp⟩
       ·cases h
      ·cases h
    ·cases h
   ·cases h
  ·cases h
 ·cases h
theorem Ei {m k:Nat}(h:k+cf m<jK):m<jK:=by
 unfold cf at h
 split at h
 ·rename_i h1;exact Nat.blt_eq.mp h1
 ·omega
include hX in
theorem oV {t u ty:TypeId}{rest:List TypeId}{x y:AV}{cx cy:Value}{r:OR}(h:cL X t x y s=some r)(hi:∀d,X.und u=some d→∀k,d≠ .int k)(hu2:∃d,X.und u=some d)(hH:HR P ι s w)(hx:VR ι x cx)(hy:VR ι y cy):
  iJ P ι s w r ((do pure (.value (←Builtin.append_ (t::u::rest).toArray ty #[cx,cy])):Sem Next).run P w):=by
 unfold cL at h
 split at h
 ·rename_i e hu
  split at h
  ·rename_i size base len cap exact he
   split at h
   ·rename_i n new hsrc
    obtain⟨news,hf,hvn,hln,hnl⟩:=rh (P:=P) hsrc hH hy
    obtain⟨newsD,hfD,hvnD,_,_⟩:=rh (P:=P) hsrc hH.drew hy
    obtain⟨p,ccap,rfl,hcap,hlen,hex,hnil⟩:=ib hx
    have hnewsl:news.length=n*size:=by rw[←hvn.length,hnl]
    obtain⟨ei,hti,hsz,hby,hpos,_⟩:=lv he
    unfold rq at h
    split at h
    ·
     rename_i h0
     have h0:=Nat.beq_eq.mp h0
     subst h0
     cases h
     have hnews:news=[]:=by simpa using hnewsl
     subst hnews
     refine⟨_,bp (run_append_room hX (base:=p) (w':=w) hu hi hu2 he hln hf (by omega) ?_),by simpa using hx⟩
     cases p<;>simp[storeCells]
    ·rename_i h0
     have h0:n≠0:=fun e=>by rw[e] at h0;simp at h0
     split at h
     ·cases h
     ·rename_i hone
      split at h
      ·
       rename_i hroom
       have hroom:=Nat.ble_eq.mp hroom
       unfold uz at h
       split at h
       ·rename_i b off es
        split at h
        ·rename_i c m hc
         split at h
         ·rename_i c' hst
          cases h
          have hx0:=hx
          simp only[VR] at hx
          obtain⟨cb,d,o,m0,hb,hcv,ho,hle1,hle2,hexx,hrm⟩:=hx
          simp only[Value.slice.injEq,true_and] at hcv
          obtain⟨rfl,rfl⟩:=hcv
          have ho:=ho (.inl (by omega))
          subst ho
          obtain⟨w',g1,g2,g3⟩:=hH.store (P:=P) hb hc hst hvn hone
          refine⟨_,w',_, .inl (bp (run_append_room hX hu hi hu2 he hln hf (by omega) ?_)),?_,g2,g3⟩
          ·simp only[add_eq];rw[Nat.add_assoc];exact g1
          ·simp only[VR]
           exact⟨cb,d,_,_,hb,rfl,fun _=>rfl,hroom,hcap,hexx,hrm⟩
         ·cases h
        ·cases h
       ·cases h
      ·
       rename_i hroom
       have hroom:¬len+n≤cap:=fun e=>by rw[Nat.ble_eq.mpr e] at hroom;cases hroom
       split at h
       ·rename_i hsmall
        have hsmall:=Nat.ble_eq.mp hsmall
        have fresh:∀ (s0:St) (c':Tr AV) (fl:Nat),HR P ι s0 w→Ext ι s w ι s0 w→s0.nx=s.nx→¬len+n≤ccap→(∃olds:List Value,(Builtin.firstCells size len (.slice p len ccap)).run P w.drew= .ok olds.toArray w.drew∧olds.length=len*size∧
           ∀i v,c'.get i=some v→(i<len*size∧∃cv,olds[i]? =some cv∧VR ι v cv)∨(len*size≤i∧new[i- len*size]? =some v))→(s0.jN c' ((len+n)*size+fl)).1=s.nx∧
          iJ P ι s w (.val (.slc (some ((s0.jN c' ((len+n)*size+fl)).1,0,size)) (len+n) (len+n) false) (s0.jN c' ((len+n)*size+fl)).2) ((do pure (.value (←Builtin.append_ (t::u::rest).toArray ty #[.slice p len ccap,cy])):Sem Next).run P w):=fun s0 c' fl h0 hE hnx hno ⟨olds,k1,k2,k3⟩=>by
         obtain⟨zc,hzc,hrun⟩:=wg hX (ty:=ty) (rest:=rest) hu hi hu2 he hln k1 hfD hno hsmall
         have hge:=grownCap_ge w (len+n) ccap e
         generalize grownCap w (len+n) ccap e=G at hrun hge
         have hrow:(olds.toArray++newsD.toArray++Builtin.zeroCells zc (G- (len+n))).size=G*size:=by
          have h2:newsD.length=n*size:=by rw[←hvnD.length,hnl]
          simp only[Array.size_append,List.size_toArray,k2,h2,Builtin.zeroCells,Array.size_map,Array.size_range,hzc]
          rw[←Nat.add_mul,←Nat.add_mul];congr 1;omega
         have hw:(w.drew.alloc (.cells (olds.toArray++newsD.toArray++Builtin.zeroCells zc (G- (len+n))) e)).heap=w.heap.push (.cells (olds.toArray++newsD.toArray++Builtin.zeroCells zc (G- (len+n))) e):=rfl
         have e1:s0.jN c' ((len+n)*size+fl)=s0.new (.cells c' ((len+n)*size+fl)):=by simp[St.jN]
         rw[e1]
         obtain⟨g1,g2⟩:=h0.new (z:=G*size) hw ⟨rfl,rfl⟩ (ab:= .cells c' ((len+n)*size+fl)) (fun κ hκ=>by
          refine⟨_,e,(0,0),by rw[hw];exact dM,fun j hj=>⟨by rw[hrow];exact hj,by simp⟩,fun i v hiv=>?_,fun _=>by simp⟩
          have hmul:(len+n)*size=len*size+n*size:=Nat.add_mul _ _ _
          have hGm:(len+n)*size≤G*size:=Nat.mul_le_mul_right _ hge
          rcases k3 i v hiv with⟨a1,cv,a2,a3⟩|⟨a1,a2⟩
          ·refine⟨by omega,by simp only;omega,cv,?_,a3.mono hκ⟩
           simp only[Nat.zero_add]
           rw[Array.getElem?_append_left (by simp;omega),Array.getElem?_append_left (by simp;omega)]
           simpa using a2
          ·obtain⟨cv,a3,a4⟩:=hvnD.get a2
           have hlt:i- len*size<newsD.length:=by
            rcases Nat.lt_or_ge (i- len*size) newsD.length with h'|h'
            ·exact h'
            ·rw[List.getElem?_eq_none h'] at a3;cases a3
           have h2:newsD.length=n*size:=by rw[←hvnD.length,hnl]
           refine⟨by omega,by simp only;omega,cv,?_,a4.mono hκ⟩
           simp only[Nat.zero_add]
           rw[Array.getElem?_append_left (by simp;omega),Array.getElem?_append_right (by simp;omega)]
           simp only[List.size_toArray,k2]
           simpa using a3)
         refine⟨hnx,_,_,_, .inl (bp hrun),?_,g1,hE.trans g2⟩
         simp only[VR,St.new]
         exact⟨_,_,_,_,Inj.dr _ _ _,rfl,fun _=>rfl,Nat.le_refl _,hge,(fun e=>by cases e),by simp⟩
        unfold kW at h
        split at h
        ·
         cases h
         obtain⟨rfl,rfl,rfl⟩:=hnil rfl
         simp only[VR] at hx
         obtain⟨_,_,_,hcv⟩:=hx
         simp only[Value.slice.injEq,true_and] at hcv
         subst hcv
         have e1:(0+n)*size=new.length:=by rw[hnl];simp
         obtain⟨_,fr⟩:=fresh s (Tr.of new) 0 hH (Ext.refl _ _ _) rfl (by omega) ⟨[],by simp[Builtin.firstCells],by simp,fun i v hiv=> .inr ⟨by omega,by simpa using Tr.df hiv⟩⟩
         rw[e1] at fr
         simpa using fr
        ·rename_i b off es
         split at h
         ·rename_i c m hes hc
          have hes:=Nat.beq_eq.mp hes
          subst hes
          unfold qX at h
          split at h
          ·rename_i c' hold
           cases h
           simp only[VR] at hx
           obtain⟨cb,d,o,m0,hb,hcv,ho,hle1,hle2,hexx,hrm⟩:=hx
           simp only[Value.slice.injEq,true_and] at hcv
           obtain⟨rfl,rfl⟩:=hcv
           obtain⟨cs,el,fz,k1,k0,k2⟩:=hH.cells hb hc
           obtain⟨⟨old,hld⟩,hc'⟩:=tQ hold (fun i v hv=>(k2 i v hv).1)
           have hol:0<len→o=d.1+off:=fun h=>ho (.inl (by omega))
           have oldsE:∃olds:List Value,(Builtin.firstCells es len (.slice (some ⟨cb,o,none⟩) len ccap)).run P w.drew= .ok olds.toArray w.drew∧olds.length=len*es∧
             ∀i v,c'.get i=some v→(i<len*es∧∃cv,olds[i]? =some cv∧VR ι v cv)∨(len*es≤i∧new[i- len*es]? =some v):=by
            rcases Nat.eq_zero_or_pos len with h0l|hpl
            ·subst h0l
             refine⟨[],by simp[Builtin.firstCells,loadCells,loadCellsFrom],by simp,fun i v hiv=>?_⟩
             rcases hc' i v hiv with⟨a1,_⟩|a
             ·simp at a1
             ·exact .inr a
            ·have:=hol hpl
             subst this
             obtain⟨vs,g1,g2⟩:=zr (P:=P) hH.drew ⟨b,hb,hc⟩ hld
             obtain⟨q1,q2⟩:=m4 hld
             refine⟨vs,by simpa[Builtin.firstCells] using g1,by rw[←g2.length,q1],fun i v hiv=>?_⟩
             rcases hc' i v hiv with⟨a1,a2⟩|a
             ·left
              refine⟨a1,?_⟩
              have:old[i]? =some v:=by
               have hi':i<old.length:=by omega
               have h3:=q2 i old[i] (by simp[hi'])
               rw[h3] at a2
               rw[List.getElem?_eq_getElem hi'];exact a2
              exact g2.get this
             ·exact .inr a
           cases hexa:exact with
           |true=>
            obtain⟨_,fr⟩:=fresh s c' (cf m) hH (Ext.refl _ _ _) rfl (by have:=hexx hexa;omega) oldsE
            exact fr
           |false=>
            have hdel:=(hH.del b).shift s.nx
            have hEdel:Ext ι s w ι {s with h:=s.h.del b,sh:=s.nx::s.sh} w:=⟨ι.le_refl,Nat.le_refl _,fun cb' _ ho'=>⟨rfl,fun⟨b',d',ab,q1,q2⟩=>ho' ⟨b',d',ab,q1,(Tr.gz q2).2⟩⟩,fun _ _=>rfl,Nat.le_refl _,Kin.refl _⟩
            by_cases hno:len+n≤ccap
            ·
             have hroomZ:o+ccap*es≤d.2:=hrm
             have hmul:len*es+n*es≤ccap*es:=by rw[←Nat.add_mul];exact Nat.mul_le_mul_right _ hno
             obtain⟨w',cs',g1,g2,g3,g4,g0,g5,g6⟩:=CV (P:=P) cb (o+len*es) el fz news 0 cs w k1 (hvn.zF hone) (fun j hj=>by
              have:=k0 (o+len*es+0+j) (by omega)
              exact this)
             have hrun:=run_append_room hX (ty:=ty) (rest:=rest) (base:=some ⟨cb,o,none⟩) (w':=w') hu hi hu2 he hln hf hno (by simp only[add_eq];exact g1)
             have e1:({s with h:=s.h.del b,sh:=s.nx::s.sh}:St).jN c' ((len+n)*es+cf m)=({s with h:=s.h.del b,sh:=s.nx::s.sh}:St).new (.cells c' ((len+n)*es+cf m)):=by simp[St.jN]
             simp only[e1]
             let κ:Inj:=ι.at s.nx (cb,o,d.2)
             have hfresh:=hH.fresh
             have hle:ι.le κ:=Inj.yk hfresh
             have oldι:∀b' x,b'≠s.nx→κ b'=some x→ι b'=some x:=fun b' x hb' hx'=>by
              simp only[κ,Inj.at] at hx';rwa [if_neg hb'] at hx'
             have hbr:BR P κ w' cb (o,d.2) (.cells c' ((len+n)*es+cf m)):=by
              refine⟨cs',el,fz,g2,fun j hj=>by rw[g5];exact k0 j hj,fun i v hiv=>?_,fun hw=>by rw[g5];exact hH.plain hb (St.eJ hc) (Ei hw) k1⟩
              have hmul2:(len+n)*es=len*es+n*es:=Nat.add_mul _ _ _
              rcases hc' i v hiv with⟨a1,a2⟩|⟨a1,a2⟩
              ·have hpl:0<len:=by
                rcases Nat.eq_zero_or_pos len with h'|h'
                ·subst h';simp at a1
                ·exact h'
               have hoo:=hol hpl
               obtain⟨_,q2,cv,q3,q4⟩:=k2 _ _ a2
               refine⟨by omega,by simp only;omega,cv,?_,q4.mono hle⟩
               simp only
               rw[g6,if_neg (by omega)]
               rw[←q3];congr 1;omega
              ·obtain⟨cv,q3,q4⟩:=hvn.get a2
               have hlt:i- len*es<news.length:=by
                rcases Nat.lt_or_ge (i- len*es) news.length with h'|h'
                ·exact h'
                ·rw[List.getElem?_eq_none h'] at q3;cases q3
               refine⟨by omega,by simp only;omega,cv,?_,q4.mono hle⟩
               simp only
               rw[g6,if_pos (by omega)]
               rw[←q3];congr 1;omega
             have live:∀b' ab,(({s with h:=s.h.del b,sh:=s.nx::s.sh}:St).new (.cells c' ((len+n)*es+cf m))).2.h.get b'=some ab→(b'=s.nx∧AB.cells c' ((len+n)*es+cf m)=ab)∨(b'≠s.nx∧b'≠b∧s.h.get b'=some ab):=fun b' ab hg=>by
              rcases Tr.dB hg with a|⟨a,hg⟩
              ·exact .inl a
              ·exact .inr ⟨a,Tr.gz hg⟩
             have hE:Ext ι s w κ (({s with h:=s.h.del b,sh:=s.nx::s.sh}:St).new (.cells c' ((len+n)*es+cf m))).2 w':=by
              refine⟨hle,by rw[g3];exact Nat.le_refl _,fun cb' hcb' ho'=>⟨g4 cb' (fun e=>?_),?_⟩,fun b' hb'=>by simp only[κ,Inj.at];rw[if_neg (by omega)],Nat.le_succ _,g0⟩
              ·subst e;exact ho' ⟨b,d,_,hb,St.eJ hc⟩
              ·rintro⟨b',d',ab,q1,q2⟩
               rcases live b' ab q2 with⟨e,_⟩|⟨e,_,q2⟩
               ·subst e
                simp only[κ,Inj.at,if_true,Option.some.injEq,Prod.mk.injEq] at q1
                obtain⟨rfl,_⟩:=q1
                exact ho' ⟨b,d,_,hb,St.eJ hc⟩
               ·exact ho' ⟨b',d',ab,oldι _ _ e q1,q2⟩
             refine⟨κ,w',_, .inl (bp hrun),?_,⟨hH.gl.ext hE rfl,fun b' cb' d' hx' hs=>?_,fun b' x hx'=>?_,fun b' cb' d' ab hx' hg=>?_,fun b1 b2 cb' d1 d2 ab1 ab2 q1 q2 g1' g2'=>?_⟩,hE⟩
             ·simp only[VR,St.new]
              exact⟨cb,(o,d.2),o,ccap,by simp[κ,Inj.at],rfl,fun _=>rfl,Nat.le_refl _,hno,fun e=>(by cases e),hrm⟩
             ·have hs:du b' (s.nx::s.sh)=false:=hs
              exact hH.base b' cb' d' (oldι b' _ (lg hs).1 hx') (lg hs).2
             ·show b'<s.nx+1
              by_cases e:b'=s.nx
              ·omega
              ·have:=hH.dom b' x (oldι b' x e hx');omega
             ·rcases live b' ab hg with⟨e,e'⟩|⟨e,e',hg⟩
              ·subst e;subst e'
               simp only[κ,Inj.at,if_true,Option.some.injEq,Prod.mk.injEq] at hx'
               obtain⟨rfl,rfl⟩:=hx'
               exact hbr
              ·have hx':=oldι b' _ e hx'
               have hne:cb'≠cb:=fun ee=>e' (hH.inj b' b cb' d' d _ _ hx' (ee▸hb) hg (St.eJ hc))
               exact(hH.br b' cb' d' ab hx' hg).frame (g4 cb' hne) hle
             ·rcases live b1 ab1 g1' with⟨e,_⟩|⟨e,e',g1'⟩<;>rcases live b2 ab2 g2' with⟨f,_⟩|⟨f,f',g2'⟩
              ·rw[e,f]
              ·subst e
               simp only[κ,Inj.at,if_true,Option.some.injEq,Prod.mk.injEq] at q1
               obtain⟨rfl,_⟩:=q1
               exact absurd (hH.inj b2 b cb d2 d _ _ (oldι _ _ f q2) hb g2' (St.eJ hc)) f'
              ·subst f
               simp only[κ,Inj.at,if_true,Option.some.injEq,Prod.mk.injEq] at q2
               obtain⟨rfl,_⟩:=q2
               exact absurd (hH.inj b1 b cb d1 d _ _ (oldι _ _ e q1) hb g1' (St.eJ hc)) e'
              ·exact hH.inj b1 b2 cb' d1 d2 _ _ (oldι _ _ e q1) (oldι _ _ f q2) g1' g2'
            ·obtain⟨_,fr⟩:=fresh {s with h:=s.h.del b,sh:=s.nx::s.sh} c' (cf m) hdel hEdel rfl hno oldsE
             exact fr
          ·cases h
         ·cases h
       ·cases h
   ·cases h
  ·cases h
 ·cases h
end
end Go.Am
end
section
namespace Go.Am
section
variable {P:Program}{X:Ctx}(hX:dC P X){ι:Inj}{s:St}{w:World}
theorem Str.KA (bs:ByteArray)(b:UInt8)(n:Nat)(h:b.toNat=n):Str.of (bs.push b)=⟨(Str.of bs).len+1,(Str.of bs).val*256+n⟩:=by
 subst h
 simp[Str.of,ByteArray.push,iF,m9]
 simp[fW]
theorem vd:∀ (l:List AV) (cl:List Value) (a:Str) (v:Str) (bs:ByteArray),bytesOf.go l a=some v→VRs ι l cl→a=Str.of bs→
  ∃bs',v=Str.of bs'∧∃ns:List Int,cl=ns.map (Value.int .u8)∧bs'=ns.foldl (fun r n=>r.push (UInt8.ofNat n.toNat)) bs
 |[],cl,a,v,bs,h,hl,ha=>by
  cases cl with
  |nil=>simp only[bytesOf.go,Option.some.injEq] at h;subst h;exact⟨bs,ha,[],rfl,rfl⟩
  |cons _ _=>simp[VRs] at hl
 |x::l,cl,a,v,bs,h,hl,ha=>by
  cases cl with
  |nil=>simp[VRs] at hl
  |cons cx cl=>
   simp only[VRs] at hl
   unfold bytesOf.go at h
   split at h
   ·rename_i e;cases e
   ·rename_i n l' e
    cases e
    split at h
    ·rename_i hn
     have hcx:=hl.1.int
     subst hcx
     obtain⟨bs',h1,ns,h2,h3⟩:=vd _ cl _ v (bs.push (UInt8.ofNat n.toNat)) h hl.2 (by
      subst ha
      have hb:(UInt8.ofNat n.toNat).toNat=n.toNat:=by
       rw[UInt8.toNat_ofNat'];omega
      exact(Str.KA bs (UInt8.ofNat n.toNat) n.toNat hb).symm)
     exact⟨bs',h1,n::ns,by simp[h2],by simpa using h3⟩
    ·cases h
   ·cases h
theorem LB {a:Option (Nat×Nat×Nat)}{len cap n:Nat}{x:Bool}{p:Option Addr}{ccap:Nat}(h:VR ι (.slc a len cap x) (.slice p len ccap))(hn:n≤len):VR ι (.slc a n n (match a with|none=>true|some _=>false)) (.slice p n (match a with|none=>0|some _=>ccap)):=by
 cases a with
 |none=>
  simp only[VR] at h ⊢
  obtain⟨rfl,rfl,rfl,h4⟩:=h
  simp only[Value.slice.injEq] at h4
  obtain⟨rfl,_,rfl⟩:=h4
  have hn0:n=0:=by omega
  simp[hn0]
 |some q=>
  obtain⟨b,o,es⟩:=q
  simp only[VR] at h ⊢
  obtain⟨cb,d,off,m,h1,h2,h3,h4,h5,h6,h7⟩:=h
  simp only[Value.slice.injEq,true_and] at h2
  obtain⟨rfl,rfl⟩:=h2
  exact⟨cb,d,off,_,h1,rfl,fun hh=>h3 (.inl (by rcases hh with hh|hh;omega;cases hh)),Nat.le_refl _,by omega,(fun e=>by cases e),h7⟩
theorem BU {size n m:Nat}{y:AV}{cy:Value}{k:Nat}{new:List AV}(h:bb s size (cutAt n y)=some (k,new))(hl:lenOf y=some m)(hn:n≤m)(hH:HR P ι s w)(hy:VR ι y cy):
  ∃news:List Value,(Builtin.firstCells size n cy).run P w= .ok news.toArray w∧VRs ι new news∧(Builtin.lenOf cy).run P w= .ok m w:=by
 unfold lenOf at hl
 split at hl
 ·rename_i a len cap x
  cases hl
  obtain⟨p,ccap,rfl,h1,h2,h3,h4⟩:=ib hy
  simp only[cutAt] at h
  cases a with
  |none=>
   have hz:=(h4 rfl).2.1
   have hp:=(h4 rfl).1
   subst hp
   simp only[bb] at h
   split at h
   ·cases h;exact⟨[],by simp[Builtin.firstCells],by simp[VRs],by simp[Builtin.lenOf]⟩
   ·cases h
  |some q=>
   have hc:=LB hy hn
   simp only at hc
   obtain⟨news,g1,g2,g3,g4⟩:=rh (P:=P) h hH hc
   have hk:k=n:=by simp[Builtin.lenOf] at g3;omega
   subst hk
   refine⟨news,?_,g2,by simp[Builtin.lenOf]⟩
   cases p with
   |none=>simpa[Builtin.firstCells] using g1
   |some p=>simpa[Builtin.firstCells] using g1
 ·rename_i a
  cases hl
  obtain⟨bs,rfl,rfl⟩:=hy.str
  have hle:n≤bs.data.toList.length:=by simpa[Str.of] using hn
  simp only[cutAt] at h
  rw[Es hle] at h
  obtain⟨news,g1,g2,g3,g4⟩:=rh (P:=P) (cy:= .string (bs.extract 0 n)) h hH (by simp[VR])
  have hk:k=n:=by
   simp only[Builtin.lenOf,Sem.run_pure,Result.ok.injEq,and_true,ByteArray.size_extract] at g3
   have:bs.size=bs.data.toList.length:=by simp only[ByteArray.size,Array.length_toList]
   omega
  subst hk
  refine⟨news,?_,g2,by simp[Builtin.lenOf,Str.of]⟩
  simp only[Builtin.firstCells,Sem.run_pure] at g1 ⊢
  rw[←g1]
  have e:(bs.extract 0 k).extract 0 k=bs.extract 0 k:=by rw[ByteArray.extract_extract];simp
  rw[e]
 ·cases hl
include hX in
theorem Aa {t ty:TypeId}{rest:List TypeId}{x y:AV}{cx cy:Value}{r:OR}(h:jj X t x y s=some r)(hH:HR P ι s w)(hx:VR ι x cx)(hy:VR ι y cy):
  iJ P ι s w r ((do pure (.value (←Builtin.copy_ (t::rest).toArray ty #[cx,cy])):Sem Next).run P w):=by
 unfold jj at h
 split at h
 ·rename_i e hu
  split at h
  ·rename_i size base len cap exact he
   obtain⟨p,ccap,rfl,hcap,hlen,hex,hnil⟩:=ib hx
   unfold Db at h
   split at h
   ·rename_i m hm
    unfold wC at h
    split at h
    ·rename_i k new hsrc
     obtain⟨news,h1,h2,h3⟩:=BU (P:=P) hsrc hm (Nat.min_le_left _ _) hH hy
     have hmin:Nat.min m len=min m len:=rfl
     have run:∀w',(match p with|some a=>storeCells a news|none=>pure ():Sem Unit).run P w= .ok () w'→
       (do pure (.value (←Builtin.copy_ (t::rest).toArray ty #[.slice p len ccap,cy])):Sem Next).run P w= .ok (.value (.int .i64 (min m len:Nat))) w':=fun w' hs=>by
      apply bp
      simp only[Builtin.copy_,List.getElem?_toArray,List.getElem?_cons_zero,List.getElem?_cons_succ,Sem.run_bind,aL hX hu,Result.andThen_ok,h3,cK hX he,hmin,h1]
      cases p with
      |none=>simp only[Sem.run_pure,Result.ok.injEq,true_and] at hs;subst hs;simp[goInt]
      |some a=>simp only at hs;simp[hs,goInt]
     split at h
     ·cases h
      have hp:=(hnil rfl).1
      subst hp
      exact⟨_,run w (by simp),by simp[VR]⟩
     ·rename_i b off es
      split at h
      ·rename_i h0
       cases h
       have h0:=Nat.beq_eq.mp h0
       refine⟨_,run w ?_,by simp[VR]⟩
       have hc:news=[]:=by
        have h5:(Builtin.firstCells size 0 cy).run P w= .ok news.toArray w:=by rw[←h0];exact h1
        cases cy with
        |slice q _ _=>
         cases q with
         |none=>simp[Builtin.firstCells] at h5;first|exact h5|exact h5.symm
         |some q=>simp[Builtin.firstCells,loadCells,loadCellsFrom] at h5;first|exact h5|exact h5.symm
        |string bs=>
         simp[Builtin.firstCells] at h5
         first|exact h5|exact h5.symm
        | _=>simp[Builtin.firstCells,stuck] at h5
       subst hc
       cases p<;>simp[storeCells]
      ·rename_i c k' h0 hone hc
       split at h
       ·rename_i c' hst
        cases h
        have hx0:=hx
        simp only[VR] at hx
        obtain⟨cb,d,o,m0,hb,hcv,ho,hle1,hle2,hexx,hrm⟩:=hx
        simp only[Value.slice.injEq,true_and] at hcv
        obtain⟨rfl,rfl⟩:=hcv
        have hlen0:0<len:=by
         rcases Nat.eq_zero_or_pos len with e|e
         ·subst e;simp at h0
         ·exact e
        have ho:=ho (.inl (by omega))
        subst ho
        obtain⟨w',g1,g2,g3⟩:=hH.store (P:=P) hb hc hst h2 hone
        exact⟨_,w',_, .inl (run w' g1),by simp[VR],g2,g3⟩
       ·cases h
      ·cases h
    ·cases h
   ·cases h
  ·cases h
 ·cases h
include hX in
theorem uo {a b:TypeId}{x:AV}{cx:Value}{r:OR}(h:bG X a b x s=some r)(hH:HR P ι s w)(hx:VR ι x cx):
  iJ P ι s w r ((do pure (.value (←convert a b cx)):Sem Next).run P w):=by
 unfold bG at h
 split at h
 ·rename_i d k k' n ha hb
  cases h
  have:=hx.int
  subst this
  refine⟨_,bp (cv:= .int k (k.wrap n)) ?_,by simp[VR,ue]⟩
  simp[convert,aL hX ha,aL hX hb,Conv.intToInt]
 ·rename_i d k k' b m r ha hb
  split at h
  ·rename_i hfit
   cases h
   simp only[VR] at hx
   obtain⟨n,rfl,hn,hr⟩:=hx
   refine⟨_,bp (cv:= .int k (k.wrap n)) ?_,by
    simp only[VR]
    exact⟨n,by rw[iu (Kt hfit hn)],hn,hr⟩⟩
   simp[convert,aL hX ha,aL hX hb,Conv.intToInt]
  ·cases h
 ·rename_i d v ha hb
  cases h
  obtain⟨bs,rfl,rfl⟩:=hx.str
  refine⟨_,bp (cv:= .string bs) ?_,hx⟩
  simp[convert,aL hX ha,aL hX hb]
 ·rename_i e v ha hb
  obtain⟨bs,rfl,rfl⟩:=hx.str
  unfold iG at h
  split at h
  ·rename_i he
   split at h
   ·rename_i hlen
    cases h
    have hrun:=run_bytes_of_string (P:=P) w a b e bs (fy hX ha) (fy hX hb) (fy hX he)
    have hge:=grownCap_ge w bs.size 0 e
    have hsz:bs.size=(Str.of bs).len:=by simp[Str.of]
    have hl:bs.data.toList.length=bs.size:=by simp only[ByteArray.size,Array.length_toList]
    generalize grownCap w bs.size 0 e=G at hrun hge
    have hrow:(bytesRow bs G).size=G:=by simp[bytesRow];omega
    have e1:s.jN (Tr.of (fM (Str.of bs) (Str.of bs).len)) ((Str.of bs).len+jK)=s.new (.cells (Tr.of (fM (Str.of bs) (Str.of bs).len)) ((Str.of bs).len+jK)):=by simp[St.jN]
    rw[e1]
    obtain⟨g1,g2⟩:=hH.new (z:=G) (w':=w.drew.alloc (.cells (bytesRow bs G) e ((bytesRow bs G).size,(bytesRow bs G).size+1))) rfl ⟨rfl,rfl⟩ (ab:= .cells (Tr.of (fM (Str.of bs) (Str.of bs).len)) ((Str.of bs).len+jK)) (fun κ hκ=>by
     refine⟨_,e,_,dM,fun j hj=>⟨by rw[hrow];exact hj,by rw[hrow];simp only at hj ⊢;omega⟩,fun i v hiv=>?_,fun hw=>absurd hw (by omega)⟩
     have hiv:=Tr.df hiv
     rw[mH] at hiv
     have hi:i<bs.size:=by
      have:=(List.getElem?_eq_some_iff.1 hiv).1
      simpa using this
     refine⟨by omega,by simp only;omega, .int .u8 (bs.data[i].toNat:Int),?_,?_⟩
     ·simp only[Nat.zero_add,bytesRow]
      rw[Array.getElem?_append_left (by simpa using hi)]
      simp[Array.getElem?_eq_getElem (show i<bs.data.size from hi)]
     ·have h1:(bs.data.toList.map fun b=>AV.int .u8 (b.toNat:Int))[i]? =some (.int .u8 (bs.data[i].toNat:Int)):=by
       simp[Array.getElem?_eq_getElem (show i<bs.data.size from hi)]
      rw[h1] at hiv
      cases hiv
      simp[VR])
    refine⟨_,_,_, .inl (bp hrun),?_,g1,g2⟩
    simp only[VR,St.new]
    exact⟨_,_,_,_,Inj.dr _ _ _,by rw[hsz],fun _=>rfl,Nat.le_refl _,by omega,(fun e=>by cases e),by simp⟩
   ·cases h
  ·cases h
 ·rename_i e a' n cap ex ha hb
  obtain⟨p,ccap,rfl,hcap,hlen,hex,hnil⟩:=ib hx
  unfold pK at h
  split at h
  ·rename_i he
   split at h
   ·rename_i k l hsrc
    split at h
    ·rename_i v hv
     cases h
     obtain⟨news,h1,h2,h3⟩:=BU (P:=P) (size:=1) (n:=n) (m:=n) (y:= .slc a' n cap ex) hsrc rfl (Nat.le_refl _) hH hx
     obtain⟨bs',g1,ns,g2,g3⟩:=vd l news _ v ByteArray.empty hv h2 (by simp[Str.of,fW])
     refine⟨.string bs',bp ?_,by subst g1;simp[VR]⟩
     rw[run_convert_bytes_string w a b e p n ccap (fy hX ha) (fy hX he) (fy hX hb)]
     cases p with
     |none=>
      simp only[Builtin.firstCells,Sem.run_pure,Result.ok.injEq,and_true] at h1
      have:news=[]:=by
       have:=congrArg Array.toList h1
       simpa using this.symm
      subst this
      cases ns with
      |nil=>simp only[List.foldl_nil] at g3;subst g3;simp[Conv.bytesToString]
      |cons _ _=>simp at g2
     |some q=>
      rw[g3]
      refine run_bytesToString w q n ccap ns ?_
      rw[g2] at h1
      simpa[Builtin.firstCells] using h1
    ·cases h
   ·cases h
  ·cases h
 ·cases h
end
end Go.Am
end
