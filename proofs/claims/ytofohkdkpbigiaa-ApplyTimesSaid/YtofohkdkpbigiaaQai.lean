/-
  A part of the texts.
-/
import Derived.Test.YtofohkdkpbigiaaQah
section
namespace Go.Am
abbrev Sl:=List (Nat×AV)
def lk:Sl→Nat→Option AV
 |[],_=>none
 |(k,v)::L,j=>match Nat.beq k j with
  |true=>some v
  |false=>lk L j
def cR (t:Tr AV)(L:Sl):Prop:=∀k v,lk L k=some v→t.get k=some v
def bL (dst:Option Nat)(v:AV)(L:Sl):Sl:=match dst with
 |some t=>(t,v)::L
 |none=>L
def gL (L:Sl):Operand→AV
 | .tmp t=>match lk L t with
  |some v=>v
  |none=> .top
 | .const v=>ofV v
 | .global g=> .gp g 0
 | .func f=> .func (.func f) [] []
def knO (L:Sl):Operand→Bool
 | .tmp t=>match lk L t with
  |some _=>true
  |none=>false
 | _=>true
def oG (L:Sl):List Operand→Bool
 |[]=>true
 |x::l=>match knO L x with
  |true=>oG L l
  |false=>false
def dO (L:Sl)(o:Op):Bool:=oG L o.operands.toList
theorem cR.put {t:Tr AV}{L:Sl}(h:cR t L)(k:Nat)(v:AV):cR (t.put k v) ((k,v)::L):=by
 intro j u hj
 rw[Tr.cT]
 simp only[lk] at hj
 cases hb:Nat.beq k j with
 |true=>rw[hb] at hj;have:=Nat.beq_eq.mp hb;subst this;simpa using hj
 |false=>
  rw[hb] at hj
  rw[if_neg (fun e=>by rw[e] at hb;simp at hb)]
  exact h j u hj
def aI:List Nat→Sl→Sl
 |[],_=>[]
 |k::ks,L=>match lk L k with
  |some v=>(k,v)::aI ks L
  |none=>aI ks L
theorem wL {L:Sl}{k:Nat}{v:AV}:∀ {ks:List Nat},lk (aI ks L) k=some v→lk L k=some v
 |[],h=>by cases h
 |j::ks,h=>by
  unfold aI at h
  cases hj:lk L j with
  |none=>rw[hj] at h;exact wL h
  |some u=>
   rw[hj] at h
   simp only[lk] at h
   cases hb:Nat.beq j k with
   |true=>rw[hb] at h;have:=Nat.beq_eq.mp hb;subst this;rw[hj];exact h
   |false=>rw[hb] at h;exact wL h
theorem cR.iV {t:Tr AV}{L:Sl}(h:cR t L)(ks:List Nat):cR t (aI ks L):=fun _ _ hj=>h _ _ (wL hj)
noncomputable def trL:Sl→Tr AV
 |[]=> .e
 |(k,v)::L=>(trL L).put k v
theorem Dr:∀ (L:Sl) (j:Nat),(trL L).get j=lk L j
 |[],j=>Tr.wv j
 |(k,v)::L,j=>by
  show((trL L).put k v).get j=_
  rw[Tr.cT,Dr L j]
  simp only[lk]
  cases hb:Nat.beq k j with
  |true=>have:=Nat.beq_eq.mp hb;subst this;simp
  |false=>rw[if_neg (fun e=>by rw[e] at hb;simp at hb)]
theorem pR (L:Sl):(⟨trL L,[]⟩:Fr).opd=gL L:=by
 funext x
 cases x with
 |tmp t=>
  simp only[Fr.opd,gL,Dr]
  cases lk L t<;>rfl
 | _=>rfl
theorem pJ {fr:Fr}{L:Sl}(h:cR fr.t L){x:Operand}(hx:knO L x=true):fr.opd x=gL L x:=by
 cases x with
 |tmp t=>
  simp only[knO] at hx
  simp only[Fr.opd,gL]
  cases hl:lk L t with
  |none=>rw[hl] at hx;cases hx
  |some v=>rw[h _ _ hl]
 | _=>rfl
theorem yb {L:Sl}:∀ {l:List Operand},oG L l=true→∀x∈l,knO L x=true
 |[],_,_,hx=>by simp at hx
 |y::l,h,x,hx=>by
  simp only[oG] at h
  cases hy:knO L y with
  |false=>rw[hy] at h;cases h
  |true=>
   rw[hy] at h
   rcases List.mem_cons.mp hx with rfl|hx
   ·exact hy
   ·exact yb h x hx
noncomputable def opG (X:Ctx)(o:Op)(g:Operand→AV)(s:St):Option OR:=
 match o with
 | .move x=>some (.old (g x))
 | .assign x=>some (.old (g x))
 | .pick c a b=>qo (g c) (g a) (g b)
 | .alloc t=>iT X t s
 | .box _ x=>dS (g x) s
 | .build t ps=>bf X t (ps.toList.map fun(i,x)=>(i,g x))
 | .buildSlice t len ps=>bh X t len (ps.toList.map fun(i,x)=>(i,g x)) s
 | .load t a=>aO X t (g a) s
 | .store t a x=>cF X t (g a) (g x) s
 | .nilCheck x=>tJ (g x)
 | .binOp op t x y _=>jf (aU X op t (qc x||qc y) (g x) (g y))
 | .unOp op _ x=>jf (EW op (g x))
 | .convert a b x=>bG X a b (g x) s
 | .makeInterface t x=>iz X t (g x)
 | .makeFunc fn first cap=>some (.pure (.func fn (first.toList.map g) (cap.toList.map g)))
 | .makeMap _ none=>nI s
 | .makeSlice t l c=>eu X t (g l) (g c) s
 | .slice t x lo hi mx=>jf (cN X s t (g x) (lo.map g) (hi.map g) (mx.map g))
 | .fieldAddr t x i=>ah X t (g x) i
 | .field t x i=>sd X t (g x) i
 | .indexAddr t x i=>fc X t (g x) (g i)
 | .index t x i=>mu X t (g x) (g i)
 | .lookup t x k ok=>eC X t (g x) (g k) ok s
 | .mapUpdate t m k x=>fB X t (g m) (g k) (g x) s
 | .insert t m k x=>fB X t (g m) (g k) (g x) s
 | .extract t i=>lr (g t) i
 | .typeAssert x _ u ok=>sf X (g x) u ok
 | .call c=>match c.callee with
  | .value f=>tm (g f) (c.args.toList.map g)
  | .builtin b=>dP X b c.argTypes.toList (c.args.toList.map g) s
  | .invoke r name=>rO X (g r) name (c.args.toList.map g)
 | .defer c=>match c.callee with
  | .value f=>uC (g f) (c.args.toList.map g)
  | _=>none
 | .panic x=>uN (g x)
 | _=>none
theorem B3 {X:Ctx}(o:Oper)(fr:Fr)(s:St):fQ X o fr s=opG X o.op fr.opd s:=by
 unfold fQ opG
 cases o.op with
 |makeMap t r=>cases r<;>rfl
 |call c=>rfl
 |defer c=>rfl
 | _=>rfl
theorem nu {X:Ctx}{o:Oper}{fr:Fr}{s:St}{L:Sl}(h:cR fr.t L)(hk:dO L o.op=true):fQ X o fr s=opG X o.op (gL L) s:=by
 rw[←pR L,←B3 o ⟨trL L,[]⟩ s]
 refine lD fun x hx=>?_
 rw[pJ h (yb hk x (Array.mem_toList_iff.mpr hx)),pR]
def dA (ops:Array Oper)(L:Sl)(o:Oper):Option Bool:=match o.guard with
 |none=>some true
 |some (j,want)=>match ops.toList[j]? with
  |some g=>match g.dst with
   |some d=>match lk L d with
    |some (.bool b)=>some (b==want)
    |some (.tup _)=>some false
    | _=>none
   |none=>none
  |none=>none
theorem eF {ops:Array Oper}{fr:Fr}{L:Sl}(h:cR fr.t L){o:Oper}{b:Bool}(hw:dA ops L o=some b):bI ops fr o=some b:=by
 unfold dA at hw
 unfold bI
 cases hg:o.guard with
 |none=>rw[hg] at hw;exact hw
 |some q=>
  obtain⟨j,want⟩:=q
  rw[hg] at hw
  simp only at hw ⊢
  unfold va
  cases hj:ops.toList[j]? with
  |none=>rw[hj] at hw;cases hw
  |some g=>
   rw[hj] at hw
   simp only at hw ⊢
   cases hd:g.dst with
   |none=>rw[hd] at hw;cases hw
   |some d=>
    rw[hd] at hw
    simp only at hw ⊢
    unfold zH
    cases hl:lk L d with
    |none=>rw[hl] at hw;cases hw
    |some v=>
     rw[hl] at hw
     rw[h _ _ hl]
     cases v<;>first|exact hw|cases hw
inductive RO where
 |fin (L:Sl) (s:St)
 |call (dst:Option Nat) (t:Tgt) (args:List AV) (rest:List Oper) (L:Sl) (s:St)
 |pan (v:AV) (L:Sl) (s:St)
 |dfr (d:qC) (dst:Option Nat) (rest:List Oper) (L:Sl) (s:St)
noncomputable def aQ (X:Ctx)(L:Sl)(o:Oper):Bool:=match o.op with
 | .call c=>match c.callee with
  | .builtin _=>true
  | .value x=>knO L x&&Aj X (gL L x)
  | .invoke x _=>knO L x&&IU (gL L x)
 | _=>true
theorem pq {X:Ctx}{fr:Fr}{L:Sl}(h:cR fr.t L){o:Oper}(hp:aQ X L o=true):wk X o fr=true:=by
 unfold aQ at hp
 unfold wk Ez
 split at hp
 ·rename_i c hc
  rw[hc]
  simp only
  split at hp<;>rename_i e<;>rw[e]<;>simp only
  ·rw[Bool.and_eq_true] at hp;rw[pJ h hp.1];exact hp.2
  ·rw[Bool.and_eq_true] at hp;rw[pJ h hp.1];exact hp.2
 ·rename_i hc
  split
  ·rename_i c e;exact absurd e (hc c)
  ·rfl
noncomputable def xE (dst:Option Nat)(rest:List Oper)(L:Sl)(s:St)(k:Sl→St→Option RO):Option OR→Option RO
 |some (.old v)=>k (bL dst v L) s
 |some (.pure v)=>k (bL dst v L) s
 |some (.val v s')=>k (bL dst v L) s'
 |some (.call f args)=>some (.call dst (.fn f) args rest L s)
 |some (.round b args)=>some (.call dst (.rnd b) args rest L s)
 |some (.pan v)=>some (.pan v L s)
 |some (.dfr d)=>some (.dfr d dst rest L s)
 |none=>none
noncomputable def oN (X:Ctx)(ops:Array Oper):List Oper→Sl→St→Option RO
 |[],L,s=>some (.fin L s)
 |o::rest,L,s=>match dA ops L o with
  |none=>none
  |some false=>match aQ X L o with
   |true=>oN X ops rest (bL o.dst (.tup []) L) s
   |false=>none
  |some true=>match dO L o.op with
   |false=>none
   |true=>xE o.dst rest L s (oN X ops rest) (opG X o.op (gL L) s)
section
variable {X:Ctx}{O:bk}
abbrev bV:=EX→Fr→St→Prop
def W (X:Ctx)(O:bk)(c:Code)(fr:Fr)(s:St)(Q:bV):Prop:=∃n x fr' s',ev X O n c fr s=some (x,fr',s')∧Q x fr' s'
def Ca (X:Ctx)(O:bk)(t:Tgt)(args:List AV)(s:St)(Q:CR→Prop):Prop:=∃n r,cn X O (ev X O n) t args s=some r∧Q r
def Op1 (X:Ctx)(O:bk)(ops:Array Oper)(l:List Oper)(fr:Fr)(s:St)(Q:bV):Prop:=∃n x fr' s',oc X (cn X O (ev X O n)) ops l fr s=some (x,fr',s')∧Q x fr' s'
def Fin (Q:bV)(x:EX)(L:Sl)(D:List DE)(s:St):Prop:=∀t,cR t L→Q x ⟨t,D⟩ s
def WL (X:Ctx)(O:bk)(c:Code)(L:Sl)(D:List DE)(s:St)(Q:bV):Prop:=∀t,cR t L→W X O c ⟨t,D⟩ s Q
def OL (X:Ctx)(O:bk)(ops:Array Oper)(l:List Oper)(L:Sl)(D:List DE)(s:St)(Q:bV):Prop:=∀t,cR t L→Op1 X O ops l ⟨t,D⟩ s Q
theorem Ca.mono {t:Tgt}{args:List AV}{s:St}{Q R:CR→Prop}(h:Ca X O t args s Q)(hQ:∀r,Q r→R r):Ca X O t args s R:=let⟨n,r,h1,h2⟩:=h;⟨n,r,h1,hQ r h2⟩
theorem WL.mono {c:Code}{L:Sl}{D:List DE}{s:St}{Q R:bV}(h:WL X O c L D s Q)(hQ:∀x fr s,Q x fr s→R x fr s):WL X O c L D s R:=fun t ht=>let⟨n,x,fr,s',h1,h2⟩:=h t ht;⟨n,x,fr,s',h1,hQ _ _ _ h2⟩
theorem WL.iV (ks:List Nat){c:Code}{L:Sl}{D:List DE}{s:St}{Q:bV}(h:WL X O c (aI ks L) D s Q):WL X O c L D s Q:=fun t ht=>h t (ht.iV ks)
theorem Fin.iV (ks:List Nat){x:EX}{L:Sl}{D:List DE}{s:St}{Q:bV}(h:Fin Q x (aI ks L) D s):Fin Q x L D s:=fun t ht=>h t (ht.iV ks)
theorem WL.less {c:Code}{L M:Sl}{D:List DE}{s:St}{Q:bV}(h:WL X O c M D s Q)(hM:aI (M.map (·.1)) L=M):WL X O c L D s Q:=by rw[←hM] at h;exact h.iV _
def RK (X:Ctx)(O:bk)(ops:Array Oper)(D:List DE)(Q:bV):RO→Prop
 | .fin L s=>Fin Q .norm L D s
 | .call dst t args rest L s=>Ca X O t args s fun r=>match r with
  | .ret v s=>OL X O ops rest (bL dst v L) D s Q
  | .pan v s=>Fin Q (.pan v) L D s
 | .pan v L s=>Fin Q (.pan v) L D s
 | .dfr d dst rest L s=>OL X O ops rest (bL dst (.tup []) L) (.fn d::D) s Q
noncomputable def Ch (dst:Option Nat)(v:AV)(t:Tr AV):Tr AV:=match dst with
 |some k=>t.put k v
 |none=>t
theorem me (fr:Fr)(dst:Option Nat)(v:AV)(s:St):ku fr dst v s=some (.go ⟨Ch dst v fr.t,fr.d⟩ s):=by
 cases dst<;>simp[ku,Ch]
theorem cR.bL {t:Tr AV}{L:Sl}(h:cR t L)(dst:Option Nat)(v:AV):cR (Ch dst v t) (bL dst v L):=by
 cases dst with
 |none=>exact h
 |some d=>exact h.put d v
theorem bC {ops:Array Oper}{D:List DE}{Q:bV}:∀ {l:List Oper} {L:Sl} {s:St} {r:RO},oN X ops l L s=some r→RK X O ops D Q r→OL X O ops l L D s Q
 |[],L,s,r,h,hr=>by
  cases h
  intro t ht
  exact⟨0,_,_,_,rfl,hr t ht⟩
 |o::rest,L,s,r,h,hr=>by
  intro t ht
  unfold oN at h
  have go:∀ {dst:Option Nat} {v:AV} {s':St},o.dst=dst→(∀n,ed X (cn X O (ev X O n)) ops o ⟨t,D⟩ s=ku ⟨t,D⟩ dst v s')→oN X ops rest (Go.Am.bL dst v L) s'=some r→Op1 X O ops (o::rest) ⟨t,D⟩ s Q:=by
   intro dst v s' hd h1 h2
   obtain⟨n,x,fr',s'',g1,g2⟩:=bC h2 hr _ (ht.bL dst v)
   refine⟨n,x,fr',s'',?_,g2⟩
   show iS _ (ed X (cn X O (ev X O n)) ops o ⟨t,D⟩ s)=_
   rw[h1 n,me]
   exact g1
  split at h
  ·cases h
  ·rename_i hw
   have hw':=eF (fr:=⟨t,D⟩) ht hw
   split at h
   ·rename_i hp
    have hp':=pq (X:=X) (fr:=⟨t,D⟩) ht hp
    refine go rfl (fun n=>?_) h
    show xu X _ o ⟨t,D⟩ s (bI ops ⟨t,D⟩ o)=_
    rw[hw']
    show mM X o ⟨t,D⟩ s=_
    unfold mM
    rw[hp']
   ·cases h
  ·rename_i hw
   have hw':=eF (fr:=⟨t,D⟩) ht hw
   split at h
   ·cases h
   ·rename_i hk
    have hop:=nu (X:=X) (o:=o) (fr:=⟨t,D⟩) (s:=s) ht hk
    have one:∀n,ed X (cn X O (ev X O n)) ops o ⟨t,D⟩ s=mg (cn X O (ev X O n)) ⟨t,D⟩ o.dst s (opG X o.op (gL L) s):=fun n=>by
     show xu X _ o ⟨t,D⟩ s (bI ops ⟨t,D⟩ o)=_
     rw[hw',←hop]
     rfl
    generalize opG X o.op (gL L) s=q at h one
    have call:∀ {tg:Tgt} {args:List AV},(∀n,mg (cn X O (ev X O n)) ⟨t,D⟩ o.dst s q=hU ⟨t,D⟩ o.dst (cn X O (ev X O n) tg args s))→RK X O ops D Q (.call o.dst tg args rest L s)→Op1 X O ops (o::rest) ⟨t,D⟩ s Q:=by
     intro tg args h1 h2
     obtain⟨n,r,g1,g2⟩:=h2
     cases r with
     |ret v s'=>
      obtain⟨m,x,fr',s'',k1,k2⟩:=g2 _ (ht.bL o.dst v)
      refine⟨max n m,x,fr',s'',?_,k2⟩
      show iS _ (ed X _ ops o ⟨t,D⟩ s)=_
      rw[one,h1,jv (kj (Nat.le_max_left n m)) _ _ _ _ g1]
      show iS _ (vx ⟨t,D⟩ o.dst v s')=_
      unfold vx
      rw[oF,km,me]
      exact qM (jv (kj (Nat.le_max_right n m))) _ _ _ _ _ k1
     |pan v s'=>
      refine⟨n, .pan v,⟨t,D⟩,s',?_,g2 t ht⟩
      show iS _ (ed X _ ops o ⟨t,D⟩ s)=_
      rw[one,h1,g1]
      rfl
    match q,h with
    |some (.old v),h=>exact go rfl (fun n=>by rw[one n];rfl) h
    |some (.pure v),h=>exact go rfl (fun n=>by rw[one n];simp only[mg,km]) h
    |some (.val v s'),h=>exact go rfl (fun n=>by rw[one n];simp only[mg,vx,oF,km]) h
    |some (.call f args),h=>
     cases h
     exact call (fun n=>by show kL args _=_;rw[mz]) hr
    |some (.round b args),h=>
     cases h
     exact call (fun n=>by show kL args _=_;rw[mz]) hr
    |some (.pan v),h=>
     cases h
     refine⟨0, .pan v,⟨t,D⟩,s,?_,hr t ht⟩
     show iS _ (ed X _ ops o ⟨t,D⟩ s)=_
     rw[one]
     rfl
    |some (.dfr d),h=>
     cases h
     obtain⟨n,x,fr',s'',g1,g2⟩:=hr _ (ht.bL o.dst (.tup []))
     refine⟨n,x,fr',s'',?_,g2⟩
     show iS _ (ed X _ ops o ⟨t,D⟩ s)=_
     rw[one]
     show iS _ (ku _ _ _ _)=_
     rw[me]
     exact g1
    |none,h=>cases h
theorem mR {c:Code}{fr:Fr}{s:St}{Q:bV}(h:∃n x fr' s',ph X O (ev X O n) c fr s=some (x,fr',s')∧Q x fr' s'):W X O c fr s Q:=
 let⟨n,x,fr',s',h1,h2⟩:=h;⟨n+1,x,fr',s',h1,h2⟩
theorem ad {id:Nat}{ops:Array Oper}{L:Sl}{D:List DE}{s:St}{Q:bV}{r:RO}(h:oN X ops ops.toList L s=some r)(hr:RK X O ops D Q r):WL X O (.region id ops false) L D s Q:=fun t ht=>
 mR (bC h hr t ht)
def wi (X:Ctx)(O:bk)(b:Code)(Q:bV):bV:=fun x fr s=>match x with
 | .norm=>W X O b fr s Q
 |x=>Q x fr s
theorem iQ {a b:Code}{L:Sl}{D:List DE}{s:St}{Q:bV}(h:WL X O a L D s (wi X O b Q)):WL X O (.seq a b) L D s Q:=fun t ht=>by
 obtain⟨n,x,fr,s',h1,h2⟩:=h t ht
 cases x with
 |norm=>
  obtain⟨m,y,fr',s'',k1,k2⟩:=h2
  refine⟨max n m+1,y,fr',s'',?_,k2⟩
  show my _ b (ev X O (max n m) a ⟨t,D⟩ s)=_
  rw[kj (Nat.le_max_left n m) _ _ _ _ h1]
  exact kj (Nat.le_max_right n m) _ _ _ _ k1
 | _=>
  refine⟨n+1,_,fr,s',?_,h2⟩
  show my _ b (ev X O n a ⟨t,D⟩ s)=_
  rw[h1];rfl
theorem cV {b:Code}{L:Sl}{D:List DE}{s:St}{Q:bV}(h:WL X O b L D s Q):Fin (wi X O b Q) .norm L D s:=h
theorem AO {b:Code}{L:Sl}{D:List DE}{s:St}{Q:bV}{i:Nat}(h:Fin Q (.brk i) L D s):Fin (wi X O b Q) (.brk i) L D s:=h
theorem Bs {b:Code}{L:Sl}{D:List DE}{s:St}{Q:bV}(h:Fin Q .ret L D s):Fin (wi X O b Q) .ret L D s:=h
theorem BI {b:Code}{L:Sl}{D:List DE}{s:St}{Q:bV}{v:AV}(h:Fin Q (.pan v) L D s):Fin (wi X O b Q) (.pan v) L D s:=h
def se (id:Nat)(Q:bV):bV:=fun x fr s=>match x with
 | .brk j=>match Nat.beq j id with
  |true=>Q .norm fr s
  |false=>Q (.brk j) fr s
 |x=>Q x fr s
theorem AY {id:Nat}{b:Code}{L:Sl}{D:List DE}{s:St}{Q:bV}(h:WL X O b L D s (se id Q)):WL X O (.block id b) L D s Q:=fun t ht=>by
 obtain⟨n,x,fr,s',h1,h2⟩:=h t ht
 have e:∀r,mI id (some (x,fr,s'))=r→ev X O (n+1) (.block id b) ⟨t,D⟩ s=r:=fun r hr=>by
  show mI id (ev X O n b ⟨t,D⟩ s)=r
  rw[h1];exact hr
 cases x with
 |brk j=>
  simp only[se] at h2
  cases hb:Nat.beq j id with
  |true=>rw[hb] at h2;exact⟨n+1, .norm,fr,s',e _ (by simp only[mI,hb]),h2⟩
  |false=>rw[hb] at h2;exact⟨n+1, .brk j,fr,s',e _ (by simp only[mI,hb]),h2⟩
 | _=>exact⟨n+1,_,fr,s',e _ rfl,h2⟩
theorem Jn {id:Nat}{L:Sl}{D:List DE}{s:St}{Q:bV}(h:Fin Q .norm L D s):Fin (se id Q) .norm L D s:=h
theorem BZ {id:Nat}{L:Sl}{D:List DE}{s:St}{Q:bV}(h:Fin Q .ret L D s):Fin (se id Q) .ret L D s:=h
theorem BC {id:Nat}{L:Sl}{D:List DE}{s:St}{Q:bV}{v:AV}(h:Fin Q (.pan v) L D s):Fin (se id Q) (.pan v) L D s:=h
theorem yV {id j:Nat}{L:Sl}{D:List DE}{s:St}{Q:bV}(e:Nat.beq j id=true)(h:Fin Q .norm L D s):Fin (se id Q) (.brk j) L D s:=fun t ht=>by simp only[se,e];exact h t ht
theorem aa {id j:Nat}{L:Sl}{D:List DE}{s:St}{Q:bV}(e:Nat.beq j id=false)(h:Fin Q (.brk j) L D s):Fin (se id Q) (.brk j) L D s:=fun t ht=>by simp only[se,e];exact h t ht
theorem I5 {b:Code}{L:Sl}{D:List DE}{s:St}{Q:bV}(h:WL X O b L D s Q):WL X O (.scope b) L D s Q:=fun t ht=>mR (h t ht)
theorem su {L:Sl}{D:List DE}{s:St}{Q:bV}(h:Fin Q .norm L D s):WL X O .skip L D s Q:=fun t ht=>mR ⟨0,_,_,_,rfl,h t ht⟩
theorem Bv {l:Nat}{L:Sl}{D:List DE}{s:St}{Q:bV}(h:Fin Q .norm L D s):WL X O (.label l) L D s Q:=fun t ht=>mR ⟨0,_,_,_,rfl,h t ht⟩
theorem KZ {id:Nat}{L:Sl}{D:List DE}{s:St}{Q:bV}(h:Fin Q (.brk id) L D s):WL X O (.exit id) L D s Q:=fun t ht=>mR ⟨0,_,_,_,rfl,h t ht⟩
theorem Ns {L:Sl}{D:List DE}{s:St}{Q:bV}(h:Fin Q .ret L D s):WL X O .ret L D s Q:=fun t ht=>mR ⟨0,_,_,_,rfl,h t ht⟩
theorem ae {x:Operand}{a b:Code}{L:Sl}{D:List DE}{s:St}{Q:bV}{c:Bool}(hk:knO L x=true)(hc:gL L x= .bool c)(ha:c=true→WL X O a L D s Q)(hb:c=false→WL X O b L D s Q):WL X O (.cond x a b) L D s Q:=fun t ht=>by
 refine mR ?_
 have e:(⟨t,D⟩:Fr).opd x= .bool c:=(pJ (fr:=⟨t,D⟩) ht hk).trans hc
 cases c with
 |true=>
  obtain⟨n,y,fr,s',h1,h2⟩:=ha rfl t ht
  exact⟨n,y,fr,s',by show qy _ a b _ s _=_;rw[e];exact h1,h2⟩
 |false=>
  obtain⟨n,y,fr,s',h1,h2⟩:=hb rfl t ht
  exact⟨n,y,fr,s',by show qy _ a b _ s _=_;rw[e];exact h1,h2⟩
def oK {α:Type}(I:α→Sl→St→Prop)(μ:α→Nat)(D:List DE)(Q:bV)(a:α):bV:=fun x fr s=>match x with
 | .norm=>∃b L,I b L s∧μ b<μ a∧fr.d=D∧cR fr.t L
 |x=>Q x fr s
theorem bm {α:Type}(I:α→Sl→St→Prop)(μ:α→Nat){b:Code}{D:List DE}{Q:bV}(h:∀a L s,I a L s→WL X O b L D s (oK I μ D Q a)):∀ (n:Nat) (a:α) (L:Sl) (s:St),μ a≤n→I a L s→WL X O (.loop b) L D s Q:=by
 intro n
 induction n with
 |zero=>
  intro a L s hm ha t ht
  obtain⟨k,x,fr,s',h1,h2⟩:=h a L s ha t ht
  cases x with
  |norm=>obtain⟨b',L',_,q,_⟩:=h2;omega
  | _=>exact⟨k+1,_,fr,s',by show my _ (.loop b) (ev X O k b ⟨t,D⟩ s)=_;rw[h1];rfl,h2⟩
 |succ n ih=>
  intro a L s hm ha t ht
  obtain⟨k,x,fr,s',h1,h2⟩:=h a L s ha t ht
  cases x with
  |norm=>
   obtain⟨b',L',h3,q,hd,hkn⟩:=h2
   obtain⟨t',d'⟩:=fr
   cases hd
   obtain⟨m,y,fr',s'',k1,k2⟩:=ih b' L' s' (by omega) h3 t' hkn
   refine⟨max k m+1,y,fr',s'',?_,k2⟩
   show my _ (.loop b) (ev X O (max k m) b ⟨t,_⟩ s)=_
   rw[kj (Nat.le_max_left k m) _ _ _ _ h1]
   exact kj (Nat.le_max_right k m) _ _ _ _ k1
  | _=>exact⟨k+1,_,fr,s',by show my _ (.loop b) (ev X O k b ⟨t,D⟩ s)=_;rw[h1];rfl,h2⟩
theorem aM {α:Type}{I:α→Sl→St→Prop}{μ:α→Nat}{D:List DE}{Q:bV}{a:α}{L:Sl}{s:St}(b:α)(M:Sl)(hI:I b M s)(hm:μ b<μ a)(hM:aI (M.map (·.1)) L=M):Fin (oK I μ D Q a) .norm L D s:=fun t ht=>
 ⟨b,M,hI,hm,rfl,by rw[←hM];exact ht.iV _⟩
theorem Ap {α:Type}{I:α→Sl→St→Prop}{μ:α→Nat}{D:List DE}{Q:bV}{a:α}{L:Sl}{s:St}{i:Nat}(h:Fin Q (.brk i) L D s):Fin (oK I μ D Q a) (.brk i) L D s:=h
theorem Aq {α:Type}{I:α→Sl→St→Prop}{μ:α→Nat}{D:List DE}{Q:bV}{a:α}{L:Sl}{s:St}(h:Fin Q .ret L D s):Fin (oK I μ D Q a) .ret L D s:=h
theorem zJ {α:Type}{I:α→Sl→St→Prop}{μ:α→Nat}{D:List DE}{Q:bV}{a:α}{L:Sl}{s:St}{v:AV}(h:Fin Q (.pan v) L D s):Fin (oK I μ D Q a) (.pan v) L D s:=h
noncomputable def rJ (X:Ctx)(L:Sl)(s:St):ResultVar→Option AV
 | .tmp t=>lk L t
 | .cell a t=>match knO L (.tmp a) with
  |true=>loadT X t (gL L (.tmp a)) s
  |false=>none
noncomputable def ir (X:Ctx)(L:Sl)(s:St):List ResultVar→Option (List AV)
 |[]=>some []
 |r::rs=>match rJ X L s r with
  |some v=>match ir X L s rs with
   |some l=>some (v::l)
   |none=>none
  |none=>none
theorem fY {t:Tr AV}{L:Sl}(h:cR t L){D:List DE}{s:St}:∀ {rs:List ResultVar} {l:List AV},ir X L s rs=some l→uu X ⟨t,D⟩ s rs=some l
 |[],l,hr=>hr
 |r::rs,l,hr=>by
  unfold ir at hr
  unfold uu
  have e:∀v,rJ X L s r=some v→yM X ⟨t,D⟩ s r=some v:=fun v hv=>by
   cases r with
   |tmp k=>simp only[rJ] at hv;simp only[yM,h _ _ hv]
   |cell a ty=>
    simp only[rJ] at hv
    cases hk:knO L (.tmp a) with
    |false=>rw[hk] at hv;cases hv
    |true=>rw[hk] at hv;simp only[yM,pJ (fr:=⟨t,D⟩) h hk];exact hv
  split at hr
  ·rename_i v hv
   rw[e v hv]
   simp only
   split at hr
   ·rename_i l' hl
    rw[fY h hl]
    exact hr
   ·cases hr
  ·cases hr
def eX:List AV→AV
 |[v]=>v
 |l=> .tup l
def tC (X:Ctx)(fn:Func)(Q:CR→Prop):bV:=fun x fr s=>match x with
 | .norm=>fr.d=[]∧∃l,uu X fr s fn.results.toList=some l∧Q (.ret (eX l) s)
 | .ret=>fr.d=[]∧∃l,uu X fr s fn.results.toList=some l∧Q (.ret (eX l) s)
 | .pan v=>fr.d=[]∧Q (.pan v s)
 | .brk _=>False
theorem nc {fn:Func}{fr:Fr}{s:St}{l:List AV}(h:uu X fr s fn.results.toList=some l):DA X fn fr s=some (.ret (eX l) s):=by
 unfold DA q7
 rw[h]
 match l with
 |[]=>rfl
 |[_]=>rfl
 | _::_::_=>rfl
def aB:List AV→Nat→Sl
 |[],_=>[]
 |v::l,i=>(i,v)::aB l (i+1)
theorem D2:∀ (l:List AV) (i k:Nat) (v:AV),lk (aB l i) k=some v→i≤k∧l[k- i]? =some v
 |[],i,k,v,h=>by cases h
 |u::l,i,k,v,h=>by
  simp only[aB,lk] at h
  cases hb:Nat.beq i k with
  |true=>rw[hb] at h;have:=Nat.beq_eq.mp hb;subst this;exact⟨Nat.le_refl _,by simpa using h⟩
  |false=>
   rw[hb] at h
   obtain⟨h1,h2⟩:=D2 l (i+1) k v h
   refine⟨by omega,?_⟩
   rw[show k- i=(k- (i+1))+1 by omega]
   simpa using h2
theorem mS {α:Type}:∀ (l:List α) (i:Nat) (t:Tr α) (j:Nat),j<i→(Tr.lP l i t).get j=t.get j
 |[],i,t,j,_=>rfl
 |x::xs,i,t,j,h=>by
  simp only[Tr.lP,Tr.rL,pC]
  rw[mS xs (i+1) _ j (by omega),Tr.cT,if_neg (by omega)]
theorem im {α:Type}:∀ (l:List α) (i:Nat) (t:Tr α) (j:Nat),i≤j→(Tr.lP l i t).get j=if j<i+l.length then l[j- i]? else t.get j
 |[],i,t,j,h=>by simp only[List.length_nil,Nat.add_zero];rw[if_neg (by omega)];rfl
 |x::xs,i,t,j,h=>by
  simp only[Tr.lP,Tr.rL,pC,List.length_cons]
  by_cases e:j=i
  ·subst e
   rw[mS xs (j+1) _ j (by omega),Tr.cT,if_pos rfl,if_pos (by omega)]
   simp
  ·rw[im xs (i+1) _ j (by omega),Tr.cT,if_neg e]
   by_cases hj:j<i+1+xs.length
   ·rw[if_pos hj,if_pos (by omega),show j- i=(j- (i+1))+1 by omega];simp
   ·rw[if_neg hj,if_neg (by omega)]
theorem df {α:Type}(l:List α)(j:Nat):(Tr.of l).get j=l[j]? :=by
 unfold Tr.of
 rw[im l 0 _ j (by omega)]
 by_cases h:j<0+l.length
 ·rw[if_pos h];simp
 ·rw[if_neg h,Tr.wv,List.getElem?_eq_none (by omega)]
theorem nV (args:List AV):cR (Tr.of args) (aB args 0):=fun k v h=>by
 obtain⟨_,h2⟩:=D2 args 0 k v h
 rw[df];simpa using h2
theorem aZ {f:FuncId}{fn:Func}{c:Code}{args:List AV}{s:St}{Q:CR→Prop}(ho:O f=none)(hf:X.fns.get f=some fn)(hc:fn.body=some c)(h:WL X O c (aB args 0) [] s (tC X fn Q)):Ca X O (.fn f) args s Q:=by
 obtain⟨n,x,fr,s',h1,h2⟩:=h _ (nV args)
 have e:∀r,rB X (ev X O n) fn (some (x,fr,s'))=some r→cn X O (ev X O n) (.fn f) args s=some r:=fun r hr=>by
  show fF X O (ev X O n) f args s=_
  unfold fF
  rw[ho]
  show dy X (ev X O n) f args s=_
  unfold dy
  rw[hf]
  simp only[hc]
  rw[h1];exact hr
 obtain⟨t',d'⟩:=fr
 cases x with
 |norm=>obtain⟨rfl,l,h3,h4⟩:=h2;exact⟨n,_,e _ (nc h3),h4⟩
 |ret=>obtain⟨rfl,l,h3,h4⟩:=h2;exact⟨n,_,e _ (nc h3),h4⟩
 |pan v=>obtain⟨rfl,h4⟩:=h2;exact⟨n,_,e (.pan v s') rfl,h4⟩
 |brk i=>exact h2.elim
theorem ai {fn:Func}{L:Sl}{s:St}{Q:CR→Prop}{l:List AV}(h:ir X L s fn.results.toList=some l)(hQ:Q (.ret (eX l) s)):Fin (tC X fn Q) .ret L [] s:=fun _ ht=>⟨rfl,l,fY ht h,hQ⟩
theorem sy {fn:Func}{L:Sl}{s:St}{Q:CR→Prop}{l:List AV}(h:ir X L s fn.results.toList=some l)(hQ:Q (.ret (eX l) s)):Fin (tC X fn Q) .norm L [] s:=fun _ ht=>⟨rfl,l,fY ht h,hQ⟩
theorem bT {fn:Func}{L:Sl}{s:St}{v:AV}{Q:CR→Prop}(hQ:Q (.pan v s)):Fin (tC X fn Q) (.pan v) L [] s:=fun _ _=>⟨rfl,hQ⟩
theorem qx {f:FuncId}{g:List AV→St→Option CR}{args:List AV}{s:St}{r:CR}{Q:CR→Prop}(ho:O f=some g)(h:g args s=some r)(hQ:Q r):Ca X O (.fn f) args s Q:=
 ⟨0,r,by show fF X O _ f args s=_;unfold fF;rw[ho];exact h,hQ⟩
end
end Go.Am
end
section
namespace Go.Am
inductive RD where
 |fin (L:Sl) (s:St)
 |call (o:Oper) (t:Tgt) (args:List AV) (pend:List bt) (rest:List DS) (L:Sl) (s:St)
 |pan (v:AV) (s:St)
noncomputable def aC (X:Ctx)(ops:Array Oper)(L:Sl)(s:St)(p:bt):Bool:=
 match p.laid with
 |some (b,x)=>pB s b x
 |none=>match dA ops L p.o with
  |some true=>match dO L p.o.op with
   |true=>aA p.v (opG X p.o.op (gL L) s)
   |false=>false
  |some false=>match p.v with
   | .tup []=>true
   | _=>false
  |none=>false
theorem xp {X:Ctx}{ops:Array Oper}{fr:Fr}{L:Sl}{s:St}(h:cR fr.t L){p:bt}(hs:aC X ops L s p=true):mT X ops fr s p=true:=by
 unfold aC at hs
 unfold mT
 cases hl:p.laid with
 |some q=>obtain⟨b,x⟩:=q;rw[hl] at hs;exact hs
 |none=>
  rw[hl] at hs
  simp only at hs ⊢
  cases hw:dA ops L p.o with
  |none=>rw[hw] at hs;cases hs
  |some b=>
   rw[hw] at hs
   rw[eF h hw]
   cases b with
   |false=>exact hs
   |true=>
    simp only at hs ⊢
    cases hk:dO L p.o.op with
    |false=>rw[hk] at hs;cases hs
    |true=>rw[hk] at hs;rw[nu h hk];exact hs
noncomputable def pj (X:Ctx)(ops:Array Oper)(o:Oper)(pend:List bt)(L:Sl)(s:St):Option (List bt):=
 match(pend.filter fun p=> !bP o p.i).all (aC X ops L s) with
 |true=>some (pend.filter fun p=> !bP o p.i)
 |false=>none
noncomputable def CA (i:Nat)(o:Oper)(pend:List bt)(L:Sl)(s:St)(k:List bt→Sl→St→Option RD):Option OR→Option RD
 |some (.old v)=>k (⟨i,o,v,none⟩::pend) (bL o.dst v L) s
 |some (.pure v)=>k (⟨i,o,v,none⟩::pend) (bL o.dst v L) s
 |some (.val v s')=>match s.h.get s.nx with
  |none=>match s'.h.get s.nx with
   |some b=>k (⟨i,o,v,some (s.nx,b)⟩::pend) (bL o.dst v L) s'
   |none=>none
  | _=>none
 | _=>none
noncomputable def vT (X:Ctx)(ops:Array Oper)(o:Oper)(pend:List bt)(rest:List DS)(L:Sl)(s:St)(k:List bt→Sl→St→Option RD):Option OR→Option RD
 |some (.old v)=>match pj X ops o pend (bL o.dst v L) s with
  |some p=>k p (bL o.dst v L) s
  |none=>none
 |some (.pure v)=>match pj X ops o pend (bL o.dst v L) s with
  |some p=>k p (bL o.dst v L) s
  |none=>none
 |some (.val v s')=>match pj X ops o pend (bL o.dst v L) s' with
  |some p=>k p (bL o.dst v L) s'
  |none=>none
 |some (.call f args)=>some (.call o (.fn f) args pend rest L s)
 |some (.round b args)=>some (.call o (.rnd b) args pend rest L s)
 |some (.pan v)=>some (.pan v s)
 | _=>none
noncomputable def lL (X:Ctx)(ops:Array Oper):List DS→List bt→Sl→St→Option RD
 |[],_,L,s=>some (.fin L s)
 | .stop::_,_,_,_=>none
 | .take i o::rest,pend,L,s=>match dA ops L o with
  |none=>none
  |some false=>lL X ops rest (⟨i,o, .tup [],none⟩::pend) (bL o.dst (.tup []) L) s
  |some true=>match dO L o.op with
   |false=>none
   |true=>CA i o pend L s (lL X ops rest) (opG X o.op (gL L) s)
 | .act _ o::rest,pend,L,s=>match dA ops L o with
  |none=>none
  |some false=>match aQ X L o with
   |true=>match pj X ops o pend (bL o.dst (.tup []) L) s with
    |some p=>lL X ops rest p (bL o.dst (.tup []) L) s
    |none=>none
   |false=>none
  |some true=>match dO L o.op with
   |false=>none
   |true=>vT X ops o pend rest L s (lL X ops rest) (opG X o.op (gL L) s)
section
variable {X:Ctx}{O:bk}
def DL (X:Ctx)(O:bk)(ops:Array Oper)(l:List DS)(pend:List bt)(L:Sl)(D:List DE)(s:St)(Q:bV):Prop:=
 ∀t,cR t L→∃n x fr' s',oS X (cn X O (ev X O n)) ops l pend ⟨t,D⟩ s=some (x,fr',s')∧Q x fr' s'
def RKD (X:Ctx)(O:bk)(ops:Array Oper)(D:List DE)(Q:bV):RD→Prop
 | .fin L s=>Fin Q .norm L D s
 | .call o t args pend rest L s=>Ca X O t args s fun r=>match r with
  | .ret v s=>∃p,pj X ops o pend (bL o.dst v L) s=some p∧DL X O ops rest p (bL o.dst v L) D s Q
  | .pan v s=>Fin Q (.pan v) [] D s
 | .pan v s=>Fin Q (.pan v) [] D s
theorem cR.nil (t:Tr AV):cR t []:=fun _ _ h=>by cases h
theorem tP {ops:Array Oper}{fr:Fr}{L:Sl}{s:St}(h:cR fr.t L){o:Oper}{pend p:List bt}(hl:pj X ops o pend L s=some p):(pend.filter fun p=> !bP o p.i).all (mT X ops fr s)=true∧p=pend.filter fun p=> !bP o p.i:=by
 unfold pj at hl
 split at hl
 ·rename_i ha
  cases hl
  refine⟨List.all_eq_true.mpr fun q hq=>xp h (List.all_eq_true.mp ha q hq),rfl⟩
 ·cases hl
theorem zx {ops:Array Oper}{D:List DE}{Q:bV}:∀ {l:List DS} {pend:List bt} {L:Sl} {s:St} {r:RD},lL X ops l pend L s=some r→RKD X O ops D Q r→DL X O ops l pend L D s Q
 |[],pend,L,s,r,h,hr=>by
  cases h
  intro t ht
  exact⟨0,_,_,_,rfl,hr t ht⟩
 | .stop::_,_,_,_,_,h,_=>by cases h
 | .take i o::rest,pend,L,s,r,h,hr=>by
  intro t ht
  unfold lL at h
  have go:∀ {v:AV} {la:Option (Nat×AB)} {s':St},jX X i o ⟨t,D⟩ s (bI ops ⟨t,D⟩ o)=some (⟨i,o,v,la⟩,⟨((⟨t,D⟩:Fr).put o.dst v).t,D⟩,s')→lL X ops rest (⟨i,o,v,la⟩::pend) (Go.Am.bL o.dst v L) s'=some r→
    ∃n x fr' s',oS X (cn X O (ev X O n)) ops (.take i o::rest) pend ⟨t,D⟩ s=some (x,fr',s')∧Q x fr' s':=by
   intro v la s' h1 h2
   have hk:cR ((⟨t,D⟩:Fr).put o.dst v).t (Go.Am.bL o.dst v L):=by
    have:=ht.bL o.dst v
    cases hd:o.dst with
    |none=>rw[hd] at this;exact this
    |some d=>rw[hd] at this;exact this
   obtain⟨n,x,fr',s'',g1,g2⟩:=zx h2 hr _ hk
   refine⟨n,x,fr',s'',?_,g2⟩
   show dY X ops i o pend ⟨t,D⟩ s _=_
   unfold dY
   rw[h1]
   exact g1
  split at h
  ·cases h
  ·rename_i hw
   refine go ?_ h
   rw[eF (fr:=⟨t,D⟩) ht hw]
   simp only[jX,ki]
  ·rename_i hw
   have hw':=eF (fr:=⟨t,D⟩) ht hw
   split at h
   ·cases h
   ·rename_i hk
    have hop:=nu (X:=X) (o:=o) (fr:=⟨t,D⟩) (s:=s) ht hk
    rw[←hop] at h
    match hq:fQ X o ⟨t,D⟩ s,h with
    |some (.old v),h=>exact go (by rw[hw'];simp only[jX,A4,hq,ki]) h
    |some (.pure v),h=>exact go (by rw[hw'];simp only[jX,A4,hq,ki,km]) h
    |some (.val v s'),h=>
     unfold CA at h
     simp only at h
     split at h
     ·rename_i hf
      split at h
      ·rename_i b hb
       exact go (by rw[hw'];simp only[jX,A4,hq,hf,hb,ki,km,oF]) h
      ·cases h
     ·cases h
    |some (.call _ _),h=>cases h
    |some (.round _ _),h=>cases h
    |some (.pan _),h=>cases h
    |some (.dfr _),h=>cases h
    |none,h=>cases h
 | .act i o::rest,pend,L,s,r,h,hr=>by
  intro t ht
  unfold lL at h
  have nw:∀v,cR (Ch o.dst v t) (Go.Am.bL o.dst v L):=fun v=>ht.bL o.dst v
  have go:∀ {v:AV} {s':St} {p:List bt},(∀n,ed X (cn X O (ev X O n)) ops o ⟨t,D⟩ s=ku ⟨t,D⟩ o.dst v s')→pj X ops o pend (Go.Am.bL o.dst v L) s'=some p→lL X ops rest p (Go.Am.bL o.dst v L) s'=some r→
    ∃n x fr' s',oS X (cn X O (ev X O n)) ops (.act i o::rest) pend ⟨t,D⟩ s=some (x,fr',s')∧Q x fr' s':=by
   intro v s' p h1 h2 h3
   obtain⟨n,x,fr',s'',g1,g2⟩:=zx h3 hr _ (nw v)
   refine⟨n,x,fr',s'',?_,g2⟩
   show ri X _ ops o pend ⟨t,D⟩ s _=_
   obtain⟨k1,k2⟩:=tP (fr:=⟨Ch o.dst v t,D⟩) (nw v) h2
   unfold ri
   rw[h1 n,me]
   simp only
   rw[k1]
   rw[←k2]
   exact g1
  split at h
  ·cases h
  ·rename_i hw
   have hw':=eF (fr:=⟨t,D⟩) ht hw
   split at h
   ·rename_i hp
    have hp':=pq (X:=X) (fr:=⟨t,D⟩) ht hp
    split at h
    ·rename_i p hl
     refine go (fun n=>?_) hl h
     show xu X _ o ⟨t,D⟩ s (bI ops ⟨t,D⟩ o)=_
     rw[hw']
     show mM X o ⟨t,D⟩ s=_
     unfold mM
     rw[hp']
    ·cases h
   ·cases h
  ·rename_i hw
   have hw':=eF (fr:=⟨t,D⟩) ht hw
   split at h
   ·cases h
   ·rename_i hk
    have hop:=nu (X:=X) (o:=o) (fr:=⟨t,D⟩) (s:=s) ht hk
    have one:∀n,ed X (cn X O (ev X O n)) ops o ⟨t,D⟩ s=mg (cn X O (ev X O n)) ⟨t,D⟩ o.dst s (opG X o.op (gL L) s):=fun n=>by
     show xu X _ o ⟨t,D⟩ s (bI ops ⟨t,D⟩ o)=_
     rw[hw',←hop]
     rfl
    generalize opG X o.op (gL L) s=q at h one
    have call:∀ {tg:Tgt} {args:List AV},(∀n,mg (cn X O (ev X O n)) ⟨t,D⟩ o.dst s q=hU ⟨t,D⟩ o.dst (cn X O (ev X O n) tg args s))→RKD X O ops D Q (.call o tg args pend rest L s)→
      ∃n x fr' s',oS X (cn X O (ev X O n)) ops (.act i o::rest) pend ⟨t,D⟩ s=some (x,fr',s')∧Q x fr' s':=by
     intro tg args h1 h2
     obtain⟨n,r,g1,g2⟩:=h2
     cases r with
     |ret v s'=>
      obtain⟨p,k1,k2⟩:=g2
      obtain⟨m,x,fr',s'',k3,k4⟩:=k2 _ (nw v)
      obtain⟨k5,k6⟩:=tP (fr:=⟨Ch o.dst v t,D⟩) (nw v) k1
      refine⟨max n m,x,fr',s'',?_,k4⟩
      show ri X _ ops o pend ⟨t,D⟩ s _=_
      unfold ri
      rw[one,h1,jv (kj (Nat.le_max_left n m)) _ _ _ _ g1]
      have e:hU ⟨t,D⟩ o.dst (some (.ret v s'))=some (.go ⟨Ch o.dst v t,D⟩ s'):=by
       simp only[hU,vx,oF,km,me]
      rw[e]
      simp only
      rw[k5,←k6]
      exact uY (jv (kj (Nat.le_max_right n m))) _ _ _ _ _ _ k3
     |pan v s'=>
      refine⟨n, .pan v,⟨.e,D⟩,s',?_,g2 _ (cR.nil _)⟩
      show ri X _ ops o pend ⟨t,D⟩ s _=_
      unfold ri
      rw[one,h1,g1]
      rfl
    match q,h with
    |some (.old v),h=>
     unfold vT at h
     simp only at h
     split at h
     ·rename_i p hl;exact go (fun n=>by rw[one n];rfl) hl h
     ·cases h
    |some (.pure v),h=>
     unfold vT at h
     simp only at h
     split at h
     ·rename_i p hl;exact go (fun n=>by rw[one n];simp only[mg,km]) hl h
     ·cases h
    |some (.val v s'),h=>
     unfold vT at h
     simp only at h
     split at h
     ·rename_i p hl;exact go (fun n=>by rw[one n];simp only[mg,vx,oF,km]) hl h
     ·cases h
    |some (.call f args),h=>
     cases h
     exact call (fun n=>by show kL args _=_;rw[mz]) hr
    |some (.round b args),h=>
     cases h
     exact call (fun n=>by show kL args _=_;rw[mz]) hr
    |some (.pan v),h=>
     cases h
     refine⟨0, .pan v,⟨.e,D⟩,s,?_,hr _ (cR.nil _)⟩
     show ri X _ ops o pend ⟨t,D⟩ s _=_
     unfold ri
     rw[one]
     rfl
    |some (.dfr d),h=>cases h
    |none,h=>cases h
def Mt (ops:Array Oper)(p:Nat×Bool):DS:=match ops.toList[p.1]? with
 |some o=>match p.2 with
  |true=> .act p.1 o
  |false=> .take p.1 o
 |none=> .stop
def p8 (ops:Array Oper):List (Nat×Bool)→List DS
 |[]=>[]
 |p::l=>Mt ops p::p8 ops l
theorem KJ {id:Nat}{ops:Array Oper}(ix:List (Nat×Bool)){L:Sl}{D:List DE}{s:St}{Q:bV}{r:RD}(hs:oe (dT ops) (ops.size+1) 0=p8 ops ix)(h:lL X ops (p8 ops ix) [] L s=some r)(hr:RKD X O ops D Q r):WL X O (.region id ops true) L D s Q:=fun t ht=>by
 obtain⟨n,x,fr',s',h1,h2⟩:=zx h hr t ht
 refine⟨n+1,x,fr',s',?_,h2⟩
 show nX X (cn X O (ev X O n)) ops (dT ops) (ops.size+1) 0 [] ⟨t,D⟩ s=_
 rw[tf,hs]
 exact h1
abbrev Ix:=List (Nat×Option (List Nat))
def flX:Ix→List (Nat×Bool)
 |[]=>[]
 |(i,none)::l=>(i,false)::flX l
 |(i,some _)::l=>(i,true)::flX l
def jR (ops:Array Oper):Ix→List Nat→Bool
 |[],_=>true
 |(i,none)::l,pend=>jR ops l (i::pend)
 |(i,some rem)::l,pend=>match ops.toList[i]? with
  |some o=>(pend.filter (fun j=> !bP o j)==rem)&&jR ops l rem
  |none=>false
noncomputable def qg (X:Ctx)(ops:Array Oper)(rem:List Nat)(pend:List bt)(L:Sl)(s:St):Option (List bt):=match rem with
 |[]=>some []
 |j::rem=>match(pend.filter fun p=>du p.i (j::rem)).all (aC X ops L s) with
  |true=>some (pend.filter fun p=>du p.i (j::rem))
  |false=>none
theorem vC {a:Nat}:∀ {l:List Nat},du a l=true↔a∈l
 |[]=>by simp[du]
 |b::l=>by
  simp only[du,List.mem_cons]
  cases h:Nat.beq a b with
  |true=>simp[Nat.beq_eq.mp h]
  |false=>
   have:a≠b:=fun e=>by rw[e] at h;simp at h
   simp[this,vC (l:=l)]
theorem wx {o:Oper}{rem:List Nat}:∀ {pend:List bt},(pend.map (·.i)).filter (fun j=> !bP o j)=rem→(pend.filter fun p=> !bP o p.i)=pend.filter fun p=>du p.i rem:=by
 intro pend h
 refine List.filter_congr fun p hp=>?_
 rw[Bool.eq_iff_iff,vC,←h,List.mem_filter]
 exact⟨fun hw=>⟨List.mem_map.mpr ⟨p,hp,rfl⟩,hw⟩,fun hw=>hw.2⟩
theorem Er {ops:Array Oper}{o:Oper}{rem:List Nat}{pend p:List bt}{L:Sl}{s:St}(h:(pend.map (·.i)).filter (fun j=> !bP o j)=rem)(hl:qg X ops rem pend L s=some p):pj X ops o pend L s=some p∧p.map (·.i)=rem:=by
 have hf:=wx h
 have hm:(pend.filter fun p=> !bP o p.i).map (·.i)=rem:=by
  rw[←h,List.filter_map];rfl
 unfold pj
 cases rem with
 |nil=>
  cases hl
  have:(pend.filter fun p=> !bP o p.i)=[]:=List.map_eq_nil_iff.mp hm
  rw[this];exact⟨rfl,rfl⟩
 |cons j rem=>
  unfold qg at hl
  simp only at hl
  rw[hf]
  split at hl
  ·rename_i ha
   cases hl
   refine⟨rfl,?_⟩
   rw[←hf];exact hm
  ·cases hl
inductive RX where
 |fin (L:Sl) (s:St)
 |call (dst:Option Nat) (rem:List Nat) (t:Tgt) (args:List AV) (pend:List bt) (rest:Ix) (L:Sl) (s:St)
 |pan (v:AV) (s:St)
noncomputable def qj (i:Nat)(o:Oper)(pend:List bt)(L:Sl)(s:St)(k:List bt→Sl→St→Option RX):Option OR→Option RX
 |some (.old v)=>k (⟨i,o,v,none⟩::pend) (bL o.dst v L) s
 |some (.pure v)=>k (⟨i,o,v,none⟩::pend) (bL o.dst v L) s
 |some (.val v s')=>match s.h.get s.nx with
  |none=>match s'.h.get s.nx with
   |some b=>k (⟨i,o,v,some (s.nx,b)⟩::pend) (bL o.dst v L) s'
   |none=>none
  | _=>none
 | _=>none
noncomputable def iL (X:Ctx)(ops:Array Oper)(rem:List Nat)(pend:List bt)(L:Sl)(s:St)(k:List bt→Sl→St→Option RX):Option RX:=match qg X ops rem pend L s with
 |some p=>k p L s
 |none=>none
noncomputable def Bj (X:Ctx)(ops:Array Oper)(o:Oper)(rem:List Nat)(pend:List bt)(rest:Ix)(L:Sl)(s:St)(k:List bt→Sl→St→Option RX):Option OR→Option RX
 |some (.old v)=>iL X ops rem pend (bL o.dst v L) s k
 |some (.pure v)=>iL X ops rem pend (bL o.dst v L) s k
 |some (.val v s')=>iL X ops rem pend (bL o.dst v L) s' k
 |some (.call f args)=>some (.call o.dst rem (.fn f) args pend rest L s)
 |some (.round b args)=>some (.call o.dst rem (.rnd b) args pend rest L s)
 |some (.pan v)=>some (.pan v s)
 | _=>none
noncomputable def ic (X:Ctx)(ops:Array Oper):Ix→List bt→Sl→St→Option RX
 |[],_,L,s=>some (.fin L s)
 |(i,none)::rest,pend,L,s=>match ops.toList[i]? with
  |none=>none
  |some o=>match dA ops L o with
   |none=>none
   |some false=>ic X ops rest (⟨i,o, .tup [],none⟩::pend) (bL o.dst (.tup []) L) s
   |some true=>match dO L o.op with
    |false=>none
    |true=>qj i o pend L s (ic X ops rest) (opG X o.op (gL L) s)
 |(i,some rem)::rest,pend,L,s=>match ops.toList[i]? with
  |none=>none
  |some o=>match dA ops L o with
   |none=>none
   |some false=>match aQ X L o with
    |true=>iL X ops rem pend (bL o.dst (.tup []) L) s (ic X ops rest)
    |false=>none
   |some true=>match dO L o.op with
    |false=>none
    |true=>Bj X ops o rem pend rest L s (ic X ops rest) (opG X o.op (gL L) s)
def DX (X:Ctx)(O:bk)(ops:Array Oper)(l:Ix)(pend:List bt)(L:Sl)(D:List DE)(s:St)(Q:bV):Prop:=
 jR ops l (pend.map (·.i))=true→DL X O ops (p8 ops (flX l)) pend L D s Q
def RKX (X:Ctx)(O:bk)(ops:Array Oper)(D:List DE)(Q:bV):RX→Prop
 | .fin L s=>Fin Q .norm L D s
 | .call dst rem t args pend rest L s=>Ca X O t args s fun r=>match r with
  | .ret v s=>∃p,qg X ops rem pend (bL dst v L) s=some p∧DX X O ops rest p (bL dst v L) D s Q
  | .pan v s=>Fin Q (.pan v) [] D s
 | .pan v s=>Fin Q (.pan v) [] D s
theorem uZ {ops:Array Oper}{D:List DE}{Q:bV}:∀ {l:Ix} {pend:List bt} {L:Sl} {s:St} {r:RX},jR ops l (pend.map (·.i))=true→ic X ops l pend L s=some r→∃rd,lL X ops (p8 ops (flX l)) pend L s=some rd∧(RKX X O ops D Q r→RKD X O ops D Q rd)
 |[],pend,L,s,r,_,h=>by cases h;exact⟨_,rfl,id⟩
 |(i,none)::rest,pend,L,s,r,hr,h=>by
  simp only[jR] at hr
  simp only[ic] at h
  cases ho:ops.toList[i]? with
  |none=>rw[ho] at h;cases h
  |some o=>
   rw[ho] at h
   have ih:∀ {v:AV} {la:Option (Nat×AB)} {L':Sl} {s':St},ic X ops rest (⟨i,o,v,la⟩::pend) L' s'=some r→∃rd,lL X ops (p8 ops (flX rest)) (⟨i,o,v,la⟩::pend) L' s'=some rd∧(RKX X O ops D Q r→RKD X O ops D Q rd):=fun h=>uZ (by simpa using hr) h
   have e:p8 ops (flX ((i,none)::rest))= .take i o::p8 ops (flX rest):=by simp only[flX,p8,Mt,ho]
   rw[e]
   simp only[lL]
   simp only at h
   cases hw:dA ops L o with
   |none=>rw[hw] at h;cases h
   |some b=>
    rw[hw] at h
    cases b with
    |false=>exact ih h
    |true=>
     simp only at h ⊢
     cases hk:dO L o.op with
     |false=>rw[hk] at h;cases h
     |true=>
      rw[hk] at h
      simp only at h ⊢
      generalize opG X o.op (gL L) s=q at h ⊢
      match q,h with
      |some (.old v),h=>exact ih h
      |some (.pure v),h=>exact ih h
      |some (.val v s'),h=>
       simp only[qj] at h
       simp only[CA]
       split at h
       ·split at h
        ·exact ih h
        ·cases h
       ·cases h
      |some (.call _ _),h=>cases h
      |some (.round _ _),h=>cases h
      |some (.pan _),h=>cases h
      |some (.dfr _),h=>cases h
      |none,h=>cases h
 |(i,some rem)::rest,pend,L,s,r,hr,h=>by
  simp only[jR] at hr
  simp only[ic] at h
  cases ho:ops.toList[i]? with
  |none=>rw[ho] at h;cases h
  |some o=>
   rw[ho] at h hr
   simp only[Bool.and_eq_true,beq_iff_eq] at hr
   have e:p8 ops (flX ((i,some rem)::rest))= .act i o::p8 ops (flX rest):=by simp only[flX,p8,Mt,ho]
   rw[e]
   simp only[lL]
   simp only at h
   have cont:∀ {v:AV} {s':St},iL X ops rem pend (bL o.dst v L) s' (ic X ops rest)=some r→∃p,pj X ops o pend (bL o.dst v L) s'=some p∧∃rd,lL X ops (p8 ops (flX rest)) p (bL o.dst v L) s'=some rd∧(RKX X O ops D Q r→RKD X O ops D Q rd):=by
    intro v s' h
    unfold iL at h
    split at h
    ·rename_i p hp
     obtain⟨h1,h2⟩:=Er hr.1 hp
     exact⟨p,h1,uZ (by rw[h2];exact hr.2) h⟩
    ·cases h
   cases hw:dA ops L o with
   |none=>rw[hw] at h;cases h
   |some b=>
    rw[hw] at h
    cases b with
    |false=>
     simp only at h ⊢
     cases hp:aQ X L o with
     |false=>rw[hp] at h;cases h
     |true=>
      rw[hp] at h
      obtain⟨p,h1,h2⟩:=cont h
      simp only[h1];exact h2
    |true=>
     simp only at h ⊢
     cases hk:dO L o.op with
     |false=>rw[hk] at h;cases h
     |true=>
      rw[hk] at h
      simp only at h ⊢
      generalize opG X o.op (gL L) s=q at h ⊢
      have call:∀ {tg:Tgt} {args:List AV},RKX X O ops D Q (.call o.dst rem tg args pend rest L s)→RKD X O ops D Q (.call o tg args pend (p8 ops (flX rest)) L s):=fun hq=>Ca.mono hq fun r hr'=>by
       cases r with
       |ret v s'=>
        obtain⟨p,h1,h2⟩:=hr'
        obtain⟨h3,h4⟩:=Er hr.1 h1
        exact⟨p,h3,h2 (by rw[h4];exact hr.2)⟩
       |pan v s'=>exact hr'
      match q,h with
      |some (.old v),h=>obtain⟨p,h1,h2⟩:=cont h;simp only[vT,h1];exact h2
      |some (.pure v),h=>obtain⟨p,h1,h2⟩:=cont h;simp only[vT,h1];exact h2
      |some (.val v s'),h=>obtain⟨p,h1,h2⟩:=cont h;simp only[vT,h1];exact h2
      |some (.call f args),h=>cases h;exact⟨_,rfl,call⟩
      |some (.round b args),h=>cases h;exact⟨_,rfl,call⟩
      |some (.pan v),h=>cases h;exact⟨_,rfl,id⟩
      |some (.dfr _),h=>cases h
      |none,h=>cases h
theorem Mp {ops:Array Oper}{D:List DE}{Q:bV}{l:Ix}{pend:List bt}{L:Sl}{s:St}{r:RX}(h:ic X ops l pend L s=some r)(hr:RKX X O ops D Q r):DX X O ops l pend L D s Q:=fun hk=>by
 obtain⟨rd,h1,h2⟩:=uZ (O:=O) (D:=D) (Q:=Q) hk h
 exact zx h1 (h2 hr)
theorem JS {id:Nat}{ops:Array Oper}(ix:Ix){L:Sl}{D:List DE}{s:St}{Q:bV}{r:RX}(hs:oe (dT ops) (ops.size+1) 0=p8 ops (flX ix))(hk:jR ops ix []=true)(h:ic X ops ix [] L s=some r)(hr:RKX X O ops D Q r):WL X O (.region id ops true) L D s Q:=by
 obtain⟨rd,h1,h2⟩:=uZ (O:=O) (D:=D) (Q:=Q) (pend:=[]) hk h
 exact KJ (flX ix) hs h1 (h2 hr)
theorem IG {a:Nat}:du a []=false:=rfl
theorem EG {a b:Nat}{l:List Nat}:du a (b::l)=if a=b then true else du a l:=by
 simp only[du]
 by_cases h:a=b
 ·rw[if_pos h,Nat.beq_eq.mpr h]
 ·rw[if_neg h]
  cases hb:Nat.beq a b with
  |true=>exact absurd (Nat.beq_eq.mp hb) h
  |false=>rfl
theorem tj {b:Bool}:(AV.bool b).same (.bool b)=true:=by simp[AV.same]
theorem o9 {k:IntKind}{n:Int}:(AV.int k n).same (.int k n)=true:=by simp[AV.same]
theorem rT {v:Str}:(AV.str v).same (.str v)=true:=by simp[AV.same,Str.beq]
theorem AG {a:Option (Nat×Nat)}:(AV.ptr a).same (.ptr a)=true:=by simp[AV.same]
theorem oQ {a:Option (Nat×Nat×Nat)}{n c:Nat}{x:Bool}:(AV.slc a n c x).same (.slc a n c x)=true:=by simp[AV.same]
theorem Bn {a:Option Nat}:(AV.map a).same (.map a)=true:=by simp[AV.same]
theorem vi {l m:List AV}:(AV.agg l).same (.agg m)=ja l m:=by simp[AV.same]
theorem Bl {l m:List AV}:(AV.tup l).same (.tup m)=ja l m:=by simp[AV.same]
theorem yh {f:Fn}{a b c d:List AV}:(AV.func f a b).same (.func f c d)=(ja a c&&ja b d):=by simp[AV.same]
theorem yf:AV.nilFunc.same .nilFunc=true:=by simp[AV.same]
theorem yc:AV.nilIface.same .nilIface=true:=by simp[AV.same]
theorem A8 {t:TypeId}{v w:AV}:(AV.iface t v).same (.iface t w)=v.same w:=by simp[AV.same]
theorem pS:ja [] []=true:=by simp[ja]
theorem og {a b:AV}{l m:List AV}:ja (a::l) (b::m)=(a.same b&&ja l m):=by simp[ja]
theorem all_nil {α:Type}{p:α→Bool}:([]:List α).all p=true:=rfl
theorem DD {ops:Array Oper}{D:List DE}{Q:bV}{L:Sl}{s:St}(h:Fin Q .norm L D s):RKX X O ops D Q (.fin L s):=h
theorem Iv {ops:Array Oper}{D:List DE}{Q:bV}{dst:Option Nat}{rem:List Nat}{t:Tgt}{args:List AV}{pend:List bt}{rest:Ix}{L:Sl}{s:St}{K:CR→Prop}(h:Ca X O t args s K)(hr:∀v s',K (.ret v s')→∃p,qg X ops rem pend (bL dst v L) s'=some p∧DX X O ops rest p (bL dst v L) D s' Q)(hp:∀v s',K (.pan v s')→Fin Q (.pan v) [] D s'):RKX X O ops D Q (.call dst rem t args pend rest L s):=
 h.mono fun r hk=>by
  cases r with
  |ret v s'=>exact hr v s' hk
  |pan v s'=>exact hp v s' hk
theorem eH {ops:Array Oper}{D:List DE}{Q:bV}{L:Sl}{s:St}(h:Fin Q .norm L D s):RK X O ops D Q (.fin L s):=h
theorem MG {ops:Array Oper}{D:List DE}{Q:bV}{L:Sl}{s:St}{v:AV}(h:Fin Q (.pan v) L D s):RK X O ops D Q (.pan v L s):=h
theorem au {ops:Array Oper}{D:List DE}{Q:bV}{dst:Option Nat}{t:Tgt}{args:List AV}{rest:List Oper}{L:Sl}{s:St}{K:CR→Prop}(h:Ca X O t args s K)(hr:∀v s',K (.ret v s')→OL X O ops rest (bL dst v L) D s' Q)(hp:∀v s',K (.pan v s')→Fin Q (.pan v) L D s'):RK X O ops D Q (.call dst t args rest L s):=
 h.mono fun r hk=>by
  cases r with
  |ret v s'=>exact hr v s' hk
  |pan v s'=>exact hp v s' hk
end
end Go.Am
end
section
namespace Go.Am
def sM (ops:Array Oper)(o:Oper):List Nat:=(o.op.operands.toList.filterMap fun x=>match x with| .tmp t=>some t| _=>none)++match o.guard with
 |some (j,_)=>match ops.toList[j]? with
  |some g=>match g.dst with
   |some d=>[d]
   |none=>[]
  |none=>[]
 |none=>[]
theorem M9 {L:Sl}{d:Nat}{v:AV}{x:Operand}(h:∀t,x= .tmp t→t≠d):gL ((d,v)::L) x=gL L x∧knO ((d,v)::L) x=knO L x:=by
 cases x with
 |tmp t=>
  have hb:Nat.beq d t=false:=by
   cases hq:Nat.beq d t with
   |false=>rfl
   |true=>exact absurd (Nat.beq_eq.mp hq).symm (h t rfl)
  simp only[gL,knO,lk,hb,and_self]
 | _=>exact⟨rfl,rfl⟩
theorem ua {L M:Sl}:∀ {l:List Operand},(∀x∈l,knO M x=knO L x)→oG M l=oG L l
 |[],_=>rfl
 |x::l,h=>by simp only[oG,h x (by simp)];rw[ua fun y hy=>h y (by simp[hy])]
theorem Ay {X:Ctx}{ops:Array Oper}{L:Sl}{s:St}{p:bt}{d:Nat}{v:AV}(hd:du d (sM ops p.o)=false)(h:aC X ops L s p=true):aC X ops ((d,v)::L) s p=true:=by
 have hn:∀t,t∈sM ops p.o→t≠d:=fun t ht e=>by subst e;rw[vC.mpr ht] at hd;cases hd
 have hx:∀x∈p.o.op.operands.toList,gL ((d,v)::L) x=gL L x∧knO ((d,v)::L) x=knO L x:=fun x hx=>M9 fun t e=>hn t (by
  unfold sM
  refine List.mem_append_left _ (List.mem_filterMap.mpr ⟨x,hx,by rw[e]⟩))
 have hk:dO ((d,v)::L) p.o.op=dO L p.o.op:=ua fun x h=>(hx x h).2
 have ho:opG X p.o.op (gL ((d,v)::L)) s=opG X p.o.op (gL L) s:=by
  rw[←pR,←pR L,←B3 p.o ⟨trL ((d,v)::L),[]⟩ s,←B3 p.o ⟨trL L,[]⟩ s]
  refine lD fun x hm=>?_
  rw[pR,pR]
  exact(hx x (Array.mem_toList_iff.mpr hm)).1
 have hw:dA ops ((d,v)::L) p.o=dA ops L p.o:=by
  unfold dA
  cases hg:p.o.guard with
  |none=>rfl
  |some q=>
   obtain⟨j,want⟩:=q
   simp only
   cases hj:ops.toList[j]? with
   |none=>rfl
   |some g=>
    simp only
    cases hgd:g.dst with
    |none=>rfl
    |some e=>
     simp only
     have he:e≠d:=hn e (by unfold sM;simp only[hg,hj,hgd];simp)
     have hb:Nat.beq d e=false:=by
      cases hq:Nat.beq d e with
      |false=>rfl
      |true=>exact absurd (Nat.beq_eq.mp hq).symm he
     simp only[lk,hb]
 unfold aC at h ⊢
 cases hl:p.laid with
 |some q=>rw[hl] at h;exact h
 |none=>
  rw[hl] at h
  simp only at h ⊢
  rw[hw,hk,ho];exact h
abbrev Iy:=List (Nat×Option (List Bool))
def mask {α:Type}:List Bool→List α→List α
 |true::m,p::l=>p::mask m l
 |false::m,_::l=>mask m l
 | _,_=>[]
theorem vg {α β:Type}(f:α→β):∀ (m:List Bool) (l:List α),mask m (l.map f)=(mask m l).map f
 |[],l=>by cases l<;>rfl
 |true::m,[]=>rfl
 |false::m,[]=>rfl
 |true::m,p::l=>by simp only[List.map_cons,mask,vg f m l]
 |false::m,p::l=>by simp only[List.map_cons,mask,vg f m l]
theorem rj {α:Type}:∀ {m:List Bool} {l:List α} {p:α},p∈mask m l→p∈l
 |[],l,p,h=>by cases l<;>simp[mask] at h
 |true::m,[],p,h=>by simp[mask] at h
 |false::m,[],p,h=>by simp[mask] at h
 |true::m,q::l,p,h=>by
  simp only[mask,List.mem_cons] at h
  rcases h with rfl|h
  ·simp
  ·exact List.mem_cons_of_mem _ (rj h)
 |false::m,q::l,p,h=>List.mem_cons_of_mem _ (rj (by simpa[mask] using h))
theorem jH {α:Type}(f:α→Bool):∀ (l:List α),mask (l.map f) l=l.filter f
 |[]=>rfl
 |a::l=>by
  simp only[List.map_cons,List.filter_cons]
  cases h:f a with
  |true=>simp only[mask,jH f l,if_true]
  |false=>simp only[mask,jH f l,Bool.false_eq_true,if_false]
def jV:Iy→List Nat→Ix
 |[],_=>[]
 |(i,none)::l,pend=>(i,none)::jV l (i::pend)
 |(i,some m)::l,pend=>(i,some (mask m pend))::jV l (mask m pend)
def pQ (ops:Array Oper)(o:Oper)(pend:List Nat):Bool:=match o.dst with
 |none=>true
 |some d=>pend.all fun j=>match ops.toList[j]? with
  |some p=> !du d (sM ops p)
  |none=>false
def nJ (ops:Array Oper):Iy→List Nat→Bool
 |[],_=>true
 |(i,none)::l,pend=>match ops.toList[i]? with
  |some o=>pQ ops o (i::pend)&&nJ ops l (i::pend)
  |none=>false
 |(i,some m)::l,pend=>match ops.toList[i]? with
  |some o=>pQ ops o (mask m pend)&& ((m==pend.map fun j=> !bP o j)&&nJ ops l (mask m pend))
  |none=>false
noncomputable def mY (i:Nat)(o:Oper)(ok:Bool)(pend:List bt)(L:Sl)(s:St)(k:Bool→List bt→Sl→St→Option RX):Option OR→Option RX
 |some (.old v)=>match v.same v with
  |true=>k ok (⟨i,o,v,none⟩::pend) (bL o.dst v L) s
  |false=>none
 |some (.pure v)=>match v.same v with
  |true=>k ok (⟨i,o,v,none⟩::pend) (bL o.dst v L) s
  |false=>none
 |some (.val v s')=>match s.h.get s.nx with
  |none=>match s'.h.get s.nx with
   |some b=>k false (⟨i,o,v,some (s.nx,b)⟩::pend) (bL o.dst v L) s'
   |none=>none
  | _=>none
 | _=>none
noncomputable def mA (X:Ctx)(ops:Array Oper)(m:List Bool)(ok:Bool)(pend:List bt)(L:Sl)(s:St)(k:Bool→List bt→Sl→St→Option RX):Option RX:=match ok with
 |true=>k true (mask m pend) L s
 |false=>match(mask m pend).all (aC X ops L s) with
  |true=>k true (mask m pend) L s
  |false=>none
noncomputable def Ba (X:Ctx)(ops:Array Oper)(o:Oper)(m:List Bool)(ok:Bool)(pend:List bt)(rest:Iy)(L:Sl)(s:St)(k:Bool→List bt→Sl→St→Option RX):Option OR→Option RX
 |some (.old v)=>mA X ops m ok pend (bL o.dst v L) s k
 |some (.pure v)=>mA X ops m ok pend (bL o.dst v L) s k
 |some (.val v s')=>mA X ops m false pend (bL o.dst v L) s' k
 |some (.call f args)=>some (.call o.dst (mask m (pend.map (·.i))) (.fn f) args pend (jV rest (mask m (pend.map (·.i)))) L s)
 |some (.round b args)=>some (.call o.dst (mask m (pend.map (·.i))) (.rnd b) args pend (jV rest (mask m (pend.map (·.i)))) L s)
 |some (.pan v)=>some (.pan v s)
 | _=>none
noncomputable def kJ (X:Ctx)(ops:Array Oper):Iy→Bool→List bt→Sl→St→Option RX
 |[],_,_,L,s=>some (.fin L s)
 |(i,none)::rest,ok,pend,L,s=>match ops.toList[i]? with
  |none=>none
  |some o=>match dA ops L o with
   |none=>none
   |some false=>kJ X ops rest ok (⟨i,o, .tup [],none⟩::pend) (bL o.dst (.tup []) L) s
   |some true=>match dO L o.op with
    |false=>none
    |true=>mY i o ok pend L s (kJ X ops rest) (opG X o.op (gL L) s)
 |(i,some m)::rest,ok,pend,L,s=>match ops.toList[i]? with
  |none=>none
  |some o=>match dA ops L o with
   |none=>none
   |some false=>match aQ X L o with
    |true=>mA X ops m ok pend (bL o.dst (.tup []) L) s (kJ X ops rest)
    |false=>none
   |some true=>match dO L o.op with
    |false=>none
    |true=>Ba X ops o m ok pend rest L s (kJ X ops rest) (opG X o.op (gL L) s)
theorem wj {ops:Array Oper}:∀ {l:Iy} {pend:List Nat},nJ ops l pend=true→jR ops (jV l pend) pend=true
 |[],_,_=>rfl
 |(i,none)::l,pend,h=>by
  simp only[nJ] at h
  simp only[jV,jR]
  split at h
  ·rw[Bool.and_eq_true] at h;exact wj h.2
  ·cases h
 |(i,some m)::l,pend,h=>by
  simp only[nJ] at h
  simp only[jV,jR]
  split at h
  ·rename_i o ho
   simp only[Bool.and_eq_true,beq_iff_eq] at h
   simp only[ho,Bool.and_eq_true,beq_iff_eq]
   exact⟨by rw[h.2.1];exact(jH _ _).symm,wj h.2.2⟩
  ·cases h
section
variable {X:Ctx}{O:bk}
def JR (ops:Array Oper)(pend:List bt):Prop:=∀p∈pend,ops.toList[p.i]? =some p.o
theorem tO {ops:Array Oper}{o:Oper}{pend:List bt}{L:Sl}{s:St}{v:AV}(hp:JR ops pend)(hf:pQ ops o (pend.map (·.i))=true)(h:∀p∈pend,aC X ops L s p=true):∀p∈pend,aC X ops (bL o.dst v L) s p=true:=by
 intro p hm
 unfold pQ at hf
 cases hd:o.dst with
 |none=>exact h p hm
 |some d=>
  rw[hd] at hf
  have:=List.all_eq_true.mp hf p.i (List.mem_map.mpr ⟨p,hm,rfl⟩)
  rw[hp p hm] at this
  exact Ay (by simpa using this) (h p hm)
theorem F0 {ops:Array Oper}{rem:List Nat}{pend q:List bt}{L:Sl}{s:St}(hq:q=pend.filter fun p=>du p.i rem)(h:q.all (aC X ops L s)=true):qg X ops rem pend L s=some q:=by
 subst hq
 cases rem with
 |nil=>
  have:(pend.filter fun p=>du p.i [])=[]:=List.filter_eq_nil_iff.mpr fun _ _=>by simp[du]
  rw[this];rfl
 |cons j rem=>unfold qg;simp only;rw[h]
theorem Da {ops:Array Oper}:∀ {l:Iy} {ok:Bool} {pend:List bt} {L:Sl} {s:St} {r:RX},nJ ops l (pend.map (·.i))=true→JR ops pend→(ok=true→∀p∈pend,aC X ops L s p=true)→kJ X ops l ok pend L s=some r→
  ic X ops (jV l (pend.map (·.i))) pend L s=some r∧jR ops (jV l (pend.map (·.i))) (pend.map (·.i))=true
 |[],ok,pend,L,s,r,_,_,_,h=>⟨h,rfl⟩
 |(i,none)::rest,ok,pend,L,s,r,hs,hp,hok,h=>by
  simp only[nJ] at hs
  simp only[kJ] at h
  simp only[jV,ic,jR]
  cases ho:ops.toList[i]? with
  |none=>rw[ho] at h;cases h
  |some o=>
   rw[ho] at h hs
   simp only[Bool.and_eq_true] at hs h ⊢
   obtain⟨hf,hs⟩:=hs
   have hf':pQ ops o (pend.map (·.i))=true:=by
    unfold pQ at hf ⊢
    cases hd:o.dst with
    |none=>rfl
    |some d=>rw[hd] at hf;exact(by simpa using hf:_∧_).2 |> fun h=>by simpa using h
   have inv:∀ (v:AV) (la:Option (Nat×AB)),JR ops (⟨i,o,v,la⟩::pend):=fun v la p hm=>by
    rcases List.mem_cons.mp hm with rfl|hm
    ·exact ho
    ·exact hp p hm
   have self:∀ {v:AV},aC X ops L s ⟨i,o,v,none⟩=true→ok=true→∀p∈(⟨i,o,v,none⟩::pend:List bt),aC X ops (bL o.dst v L) s p=true:=fun{v} hv hk=>
    tO (inv v none) (by simpa using hf) fun p hm=>by
     rcases List.mem_cons.mp hm with rfl|hm
     ·exact hv
     ·exact hok hk p hm
   have ih:∀ {ok':Bool} {v:AV} {la:Option (Nat×AB)} {L':Sl} {s':St},(ok'=true→∀p∈(⟨i,o,v,la⟩::pend:List bt),aC X ops L' s' p=true)→kJ X ops rest ok' (⟨i,o,v,la⟩::pend) L' s'=some r→
     ic X ops (jV rest (i::pend.map (·.i))) (⟨i,o,v,la⟩::pend) L' s'=some r∧jR ops (jV rest (i::pend.map (·.i))) (i::pend.map (·.i))=true:=fun hk hr=>Da (pend:=⟨i,o,_,_⟩::pend) (by simpa using hs) (inv _ _) hk hr
   cases hw:dA ops L o with
   |none=>rw[hw] at h;cases h
   |some b=>
    rw[hw] at h
    cases b with
    |false=>exact ih (self (by simp only[aC,hw])) h
    |true=>
     simp only at h ⊢
     cases hk:dO L o.op with
     |false=>rw[hk] at h;cases h
     |true=>
      rw[hk] at h
      simp only at h ⊢
      have st:∀ {v:AV},aA v (opG X o.op (gL L) s)=true→aC X ops L s ⟨i,o,v,none⟩=true:=fun hv=>by simp only[aC,hw,hk,hv]
      generalize opG X o.op (gL L) s=q at h st ⊢
      match q,h with
      |some (.old v),h=>
       simp only[mY] at h
       split at h
       ·rename_i hv;exact ih (self (st hv)) h
       ·cases h
      |some (.pure v),h=>
       simp only[mY] at h
       split at h
       ·rename_i hv;exact ih (self (st hv)) h
       ·cases h
      |some (.val v s'),h=>
       simp only[mY] at h
       split at h
       ·rename_i hf0
        split at h
        ·rename_i b0 hb0
         simp only[qj,hf0,hb0]
         exact ih (fun e=>by cases e) h
        ·cases h
       ·cases h
      |some (.call _ _),h=>cases h
      |some (.round _ _),h=>cases h
      |some (.pan _),h=>cases h
      |some (.dfr _),h=>cases h
      |none,h=>cases h
 |(i,some m)::rest,ok,pend,L,s,r,hs,hp,hok,h=>by
  simp only[nJ] at hs
  simp only[kJ] at h
  simp only[jV,ic,jR]
  cases ho:ops.toList[i]? with
  |none=>rw[ho] at h;cases h
  |some o=>
   rw[ho] at h hs
   simp only[Bool.and_eq_true,beq_iff_eq] at hs h ⊢
   obtain⟨hf,hr,hs⟩:=hs
   have hpm:JR ops (mask m pend):=fun p hm=>hp p (rj hm)
   have hmm:mask m (pend.map (·.i))=(mask m pend).map (·.i):=vg _ _ _
   have hfil:mask m pend=pend.filter fun p=> !bP o p.i:=by
    rw[hr,List.map_map];exact jH _ _
   have hrem:(pend.map (·.i)).filter (fun j=> !bP o j)=mask m (pend.map (·.i)):=by rw[hr];exact(jH _ _).symm
   have hrem':(mask m pend)=pend.filter fun p=>du p.i (mask m (pend.map (·.i))):=by rw[hfil];exact wx hrem
   rw[hmm] at hf hs
   have cont:∀ {ok':Bool} {v:AV} {s':St},(ok'=true→s'=s∧ok=true)→mA X ops m ok' pend (bL o.dst v L) s' (kJ X ops rest)=some r→
     iL X ops (mask m (pend.map (·.i))) pend (bL o.dst v L) s' (ic X ops (jV rest (mask m (pend.map (·.i)))))=some r∧jR ops (jV rest (mask m (pend.map (·.i)))) (mask m (pend.map (·.i)))=true:=by
    intro ok' v s' hk hc
    have key:(∀p∈mask m pend,aC X ops (bL o.dst v L) s' p=true)→kJ X ops rest true (mask m pend) (bL o.dst v L) s'=some r→iL X ops (mask m (pend.map (·.i))) pend (bL o.dst v L) s' (ic X ops (jV rest (mask m (pend.map (·.i)))))=some r∧jR ops (jV rest (mask m (pend.map (·.i)))) (mask m (pend.map (·.i)))=true:=by
     intro hall hrun
     have hl:qg X ops (mask m (pend.map (·.i))) pend (bL o.dst v L) s'=some (mask m pend):=F0 hrem' (List.all_eq_true.mpr hall)
     unfold iL
     rw[hl,hmm]
     exact Da hs hpm (fun _=>hall) hrun
    unfold mA at hc
    cases ok' with
    |true=>
     obtain⟨rfl,hk'⟩:=hk rfl
     exact key (tO hpm hf fun p hm=>hok hk' p (rj hm)) hc
    |false=>
     simp only at hc
     split at hc
     ·rename_i ha;exact key (List.all_eq_true.mp ha) hc
     ·cases hc
   cases hw:dA ops L o with
   |none=>rw[hw] at h;cases h
   |some b=>
    rw[hw] at h
    cases b with
    |false=>
     simp only at h ⊢
     cases hpa:aQ X L o with
     |false=>rw[hpa] at h;cases h
     |true=>
      rw[hpa] at h
      obtain⟨h1,h2⟩:=cont (fun e=>⟨rfl,e⟩) h
      exact⟨h1,hrem,h2⟩
    |true=>
     simp only at h ⊢
     cases hk:dO L o.op with
     |false=>rw[hk] at h;cases h
     |true=>
      rw[hk] at h
      simp only at h ⊢
      have hre:jR ops (jV rest (mask m (pend.map (·.i)))) (mask m (pend.map (·.i)))=true:=by rw[hmm];exact wj hs
      generalize opG X o.op (gL L) s=q at h ⊢
      match q,h with
      |some (.old v),h=>obtain⟨h1,h2⟩:=cont (ok':=ok) (v:=v) (s':=s) (fun e=>⟨rfl,e⟩) h;exact⟨h1,hrem,h2⟩
      |some (.pure v),h=>obtain⟨h1,h2⟩:=cont (ok':=ok) (v:=v) (s':=s) (fun e=>⟨rfl,e⟩) h;exact⟨h1,hrem,h2⟩
      |some (.val v s'),h=>obtain⟨h1,h2⟩:=cont (ok':=false) (v:=v) (s':=s') (fun e=>(by cases e)) h;exact⟨h1,hrem,h2⟩
      |some (.call f args),h=>exact⟨h,hrem,hre⟩
      |some (.round b args),h=>exact⟨h,hrem,hre⟩
      |some (.pan v),h=>exact⟨h,hrem,hre⟩
      |some (.dfr _),h=>cases h
      |none,h=>cases h
theorem aV {id:Nat}{ops:Array Oper}(iy:Iy){L:Sl}{D:List DE}{s:St}{Q:bV}{r:RX}(hs:oe (dT ops) (ops.size+1) 0=p8 ops (flX (jV iy [])))(hk:nJ ops iy []=true)(h:kJ X ops iy true [] L s=some r)(hr:RKX X O ops D Q r):WL X O (.region id ops true) L D s Q:=by
 obtain⟨h1,h2⟩:=Da (X:=X) (pend:=[]) hk (fun _ h=>by simp at h) (fun _ _ h=>by simp at h) h
 exact JS _ hs h2 h1 hr
end
end Go.Am
end
