/-
  A part of the texts.
-/
import Derived.Test.YtofohkdkpbigiaaQai
section
namespace Go.Am
abbrev Sl:=List (Nat×AV)
def lk:Sl→Nat→Option AV
 |[],_=>none
 |(k,v)::L,j=>match Nat.beq k j with
  |true=>some v
  |false=>lk L j
def cT (t:Tr AV)(L:Sl):Prop:=∀k v,lk L k=some v→t.get k=some v
def bO (dst:Option Nat)(v:AV)(L:Sl):Sl:=match dst with
 |some t=>(t,v)::L
 |none=>L
def gL (L:Sl):Operand→AV
 | .tmp t=>match lk L t with
  |some v=>v
  |none=> .top
 | .const v=>ofV v
 | .global g=> .gp g 0
 | .func f=> .func (.func f) [] []
def knO (L:Sl):Operand→Bool
 | .tmp t=>match lk L t with
  |some _=>true
  |none=>false
 | _=>true
def oV (L:Sl):List Operand→Bool
 |[]=>true
 |x::l=>match knO L x with
  |true=>oV L l
  |false=>false
def dV (L:Sl)(o:Op):Bool:=oV L o.operands.toList
theorem cT.put {t:Tr AV}{L:Sl}(h:cT t L)(k:Nat)(v:AV):cT (t.put k v) ((k,v)::L):=by
 intro j u hj
 rw[Tr.cV]
 simp only[lk] at hj
 cases hb:Nat.beq k j with
 |true=>rw[hb] at hj;have:=Nat.beq_eq.mp hb;subst this;simpa using hj
 |false=>
  rw[hb] at hj
  rw[if_neg (fun e=>by rw[e] at hb;simp at hb)]
  exact h j u hj
def aI:List Nat→Sl→Sl
 |[],_=>[]
 |k::ks,L=>match lk L k with
  |some v=>(k,v)::aI ks L
  |none=>aI ks L
theorem xc {L:Sl}{k:Nat}{v:AV}:∀ {ks:List Nat},lk (aI ks L) k=some v→lk L k=some v
 |[],h=>by cases h
 |j::ks,h=>by
  unfold aI at h
  cases hj:lk L j with
  |none=>rw[hj] at h;exact xc h
  |some u=>
   rw[hj] at h
   simp only[lk] at h
   cases hb:Nat.beq j k with
   |true=>rw[hb] at h;have:=Nat.beq_eq.mp hb;subst this;rw[hj];exact h
   |false=>rw[hb] at h;exact xc h
theorem cT.jn {t:Tr AV}{L:Sl}(h:cT t L)(ks:List Nat):cT t (aI ks L):=fun _ _ hj=>h _ _ (xc hj)
noncomputable def trL:Sl→Tr AV
 |[]=> .e
 |(k,v)::L=>(trL L).put k v
theorem DW:∀ (L:Sl) (j:Nat),(trL L).get j=lk L j
 |[],j=>Tr.ry j
 |(k,v)::L,j=>by
  show((trL L).put k v).get j=_
  rw[Tr.cV,DW L j]
  simp only[lk]
  cases hb:Nat.beq k j with
  |true=>have:=Nat.beq_eq.mp hb;subst this;simp
  |false=>rw[if_neg (fun e=>by rw[e] at hb;simp at hb)]
theorem pW (L:Sl):(⟨trL L,[]⟩:Fr).opd=gL L:=by
 funext x
 cases x with
 |tmp t=>
  simp only[Fr.opd,gL,DW]
  cases lk L t<;>rfl
 | _=>rfl
theorem pX {fr:Fr}{L:Sl}(h:cT fr.t L){x:Operand}(hx:knO L x=true):fr.opd x=gL L x:=by
 cases x with
 |tmp t=>
  simp only[knO] at hx
  simp only[Fr.opd,gL]
  cases hl:lk L t with
  |none=>rw[hl] at hx;cases hx
  |some v=>rw[h _ _ hl]
 | _=>rfl
theorem yn {L:Sl}:∀ {l:List Operand},oV L l=true→∀x∈l,knO L x=true
 |[],_,_,hx=>by simp at hx
 |y::l,h,x,hx=>by
  simp only[oV] at h
  cases hy:knO L y with
  |false=>rw[hy] at h;cases h
  |true=>
   rw[hy] at h
   rcases List.mem_cons.mp hx with rfl|hx
   ·exact hy
   ·exact yn h x hx
noncomputable def opG (X:Ctx)(o:Op)(g:Operand→AV)(s:St):Option OR:=
 match o with
 | .move x=>some (.old (g x))
 | .assign x=>some (.old (g x))
 | .pick c a b=>qA (g c) (g a) (g b)
 | .alloc t=>ja X t s
 | .box _ x=>dY (g x) s
 | .build t ps=>bz X t (ps.toList.map fun(i,x)=>(i,g x))
 | .buildSlice t len ps=>bB X t len (ps.toList.map fun(i,x)=>(i,g x)) s
 | .load t a=>aO X t (g a) s
 | .store t a x=>cK X t (g a) (g x) s
 | .nilCheck x=>uq (g x)
 | .binOp op t x y _=>jA (aW X op t (qu x||qu y) (g x) (g y))
 | .unOp op _ x=>jA (F2 op (g x))
 | .convert a b x=>bH X a b (g x) s
 | .makeInterface t x=>iK X t (g x)
 | .makeFunc fn first cap=>some (.pure (.func fn (first.toList.map g) (cap.toList.map g)))
 | .makeMap _ none=>nY s
 | .makeSlice t l c=>eF X t (g l) (g c) s
 | .slice t x lo hi mx=>jA (cP X s t (g x) (lo.map g) (hi.map g) (mx.map g))
 | .fieldAddr t x i=>af X t (g x) i
 | .field t x i=>sj X t (g x) i
 | .indexAddr t x i=>fh X t (g x) (g i)
 | .index t x i=>mL X t (g x) (g i)
 | .lookup t x k ok=>eN X t (g x) (g k) ok s
 | .mapUpdate t m k x=>fy X t (g m) (g k) (g x) s
 | .insert t m k x=>fy X t (g m) (g k) (g x) s
 | .extract t i=>lH (g t) i
 | .typeAssert x _ u ok=>rT X (g x) u ok
 | .call c=>match c.callee with
  | .value f=>ti (g f) (c.args.toList.map g)
  | .builtin b=>dX X b c.argTypes.toList (c.args.toList.map g) s
  | .invoke r name=>sK X (g r) name (c.args.toList.map g)
 | .defer c=>match c.callee with
  | .value f=>va (g f) (c.args.toList.map g)
  | _=>none
 | .panic x=>vh (g x)
 | _=>none
theorem CU {X:Ctx}(o:Oper)(fr:Fr)(s:St):fZ X o fr s=opG X o.op fr.opd s:=by
 unfold fZ opG
 cases o.op with
 |makeMap t r=>cases r<;>rfl
 |call c=>rfl
 |defer c=>rfl
 | _=>rfl
theorem nj {X:Ctx}{o:Oper}{fr:Fr}{s:St}{L:Sl}(h:cT fr.t L)(hk:dV L o.op=true):fZ X o fr s=opG X o.op (gL L) s:=by
 rw[←pW L,←CU o ⟨trL L,[]⟩ s]
 refine mj fun x hx=>?_
 rw[pX h (yn hk x (Array.mem_toList_iff.mpr hx)),pW]
def dG (ops:Array Oper)(L:Sl)(o:Oper):Option Bool:=match o.guard with
 |none=>some true
 |some (j,want)=>match ops.toList[j]? with
  |some g=>match g.dst with
   |some d=>match lk L d with
    |some (.bool b)=>some (b==want)
    |some (.tup _)=>some false
    | _=>none
   |none=>none
  |none=>none
theorem eK {ops:Array Oper}{fr:Fr}{L:Sl}(h:cT fr.t L){o:Oper}{b:Bool}(hw:dG ops L o=some b):bI ops fr o=some b:=by
 unfold dG at hw
 unfold bI
 cases hg:o.guard with
 |none=>rw[hg] at hw;exact hw
 |some q=>
  obtain⟨j,want⟩:=q
  rw[hg] at hw
  simp only at hw ⊢
  unfold uZ
  cases hj:ops.toList[j]? with
  |none=>rw[hj] at hw;cases hw
  |some g=>
   rw[hj] at hw
   simp only at hw ⊢
   cases hd:g.dst with
   |none=>rw[hd] at hw;cases hw
   |some d=>
    rw[hd] at hw
    simp only at hw ⊢
    unfold z7
    cases hl:lk L d with
    |none=>rw[hl] at hw;cases hw
    |some v=>
     rw[hl] at hw
     rw[h _ _ hl]
     cases v<;>first|exact hw|cases hw
inductive RO where
 |fin (L:Sl) (s:St)
 |call (dst:Option Nat) (t:Tgt) (args:List AV) (rest:List Oper) (L:Sl) (s:St)
 |pan (v:AV) (L:Sl) (s:St)
 |dfr (d:qT) (dst:Option Nat) (rest:List Oper) (L:Sl) (s:St)
noncomputable def aP (X:Ctx)(L:Sl)(o:Oper):Bool:=match o.op with
 | .call c=>match c.callee with
  | .builtin _=>true
  | .value x=>knO L x&&zi X (gL L x)
  | .invoke x _=>knO L x&&HP (gL L x)
 | _=>true
theorem pC {X:Ctx}{fr:Fr}{L:Sl}(h:cT fr.t L){o:Oper}(hp:aP X L o=true):w8 X o fr=true:=by
 unfold aP at hp
 unfold w8 Eo
 split at hp
 ·rename_i c hc
  rw[hc]
  simp only
  split at hp<;>rename_i e<;>rw[e]<;>simp only
  ·rw[Bool.and_eq_true] at hp;rw[pX h hp.1];exact hp.2
  ·rw[Bool.and_eq_true] at hp;rw[pX h hp.1];exact hp.2
 ·rename_i hc
  split
  ·rename_i c e;exact absurd e (hc c)
  ·rfl
noncomputable def xh (dst:Option Nat)(rest:List Oper)(L:Sl)(s:St)(k:Sl→St→Option RO):Option OR→Option RO
 |some (.old v)=>k (bO dst v L) s
 |some (.pure v)=>k (bO dst v L) s
 |some (.val v s')=>k (bO dst v L) s'
 |some (.call f args)=>some (.call dst (.fn f) args rest L s)
 |some (.round b args)=>some (.call dst (.rnd b) args rest L s)
 |some (.pan v)=>some (.pan v L s)
 |some (.dfr d)=>some (.dfr d dst rest L s)
 |none=>none
noncomputable def oZ (X:Ctx)(ops:Array Oper):List Oper→Sl→St→Option RO
 |[],L,s=>some (.fin L s)
 |o::rest,L,s=>match dG ops L o with
  |none=>none
  |some false=>match aP X L o with
   |true=>oZ X ops rest (bO o.dst (.tup []) L) s
   |false=>none
  |some true=>match dV L o.op with
   |false=>none
   |true=>xh o.dst rest L s (oZ X ops rest) (opG X o.op (gL L) s)
section
variable {X:Ctx}{O:bj}
abbrev cf:=EX→Fr→St→Prop
def W (X:Ctx)(O:bj)(c:Code)(fr:Fr)(s:St)(Q:cf):Prop:=∃n x fr' s',ev X O n c fr s=some (x,fr',s')∧Q x fr' s'
def Ca (X:Ctx)(O:bj)(t:Tgt)(args:List AV)(s:St)(Q:CR→Prop):Prop:=∃n r,cF X O (ev X O n) t args s=some r∧Q r
def Op1 (X:Ctx)(O:bj)(ops:Array Oper)(l:List Oper)(fr:Fr)(s:St)(Q:cf):Prop:=∃n x fr' s',nV X (cF X O (ev X O n)) ops l fr s=some (x,fr',s')∧Q x fr' s'
def Fin (Q:cf)(x:EX)(L:Sl)(D:List DE)(s:St):Prop:=∀t,cT t L→Q x ⟨t,D⟩ s
def WL (X:Ctx)(O:bj)(c:Code)(L:Sl)(D:List DE)(s:St)(Q:cf):Prop:=∀t,cT t L→W X O c ⟨t,D⟩ s Q
def OL (X:Ctx)(O:bj)(ops:Array Oper)(l:List Oper)(L:Sl)(D:List DE)(s:St)(Q:cf):Prop:=∀t,cT t L→Op1 X O ops l ⟨t,D⟩ s Q
theorem Ca.mono {t:Tgt}{args:List AV}{s:St}{Q R:CR→Prop}(h:Ca X O t args s Q)(hQ:∀r,Q r→R r):Ca X O t args s R:=let⟨n,r,h1,h2⟩:=h;⟨n,r,h1,hQ r h2⟩
theorem WL.mono {c:Code}{L:Sl}{D:List DE}{s:St}{Q R:cf}(h:WL X O c L D s Q)(hQ:∀x fr s,Q x fr s→R x fr s):WL X O c L D s R:=fun t ht=>let⟨n,x,fr,s',h1,h2⟩:=h t ht;⟨n,x,fr,s',h1,hQ _ _ _ h2⟩
theorem WL.jn (ks:List Nat){c:Code}{L:Sl}{D:List DE}{s:St}{Q:cf}(h:WL X O c (aI ks L) D s Q):WL X O c L D s Q:=fun t ht=>h t (ht.jn ks)
theorem Fin.jn (ks:List Nat){x:EX}{L:Sl}{D:List DE}{s:St}{Q:cf}(h:Fin Q x (aI ks L) D s):Fin Q x L D s:=fun t ht=>h t (ht.jn ks)
theorem WL.less {c:Code}{L M:Sl}{D:List DE}{s:St}{Q:cf}(h:WL X O c M D s Q)(hM:aI (M.map (·.1)) L=M):WL X O c L D s Q:=by rw[←hM] at h;exact h.jn _
def RK (X:Ctx)(O:bj)(ops:Array Oper)(D:List DE)(Q:cf):RO→Prop
 | .fin L s=>Fin Q .norm L D s
 | .call dst t args rest L s=>Ca X O t args s fun r=>match r with
  | .ret v s=>OL X O ops rest (bO dst v L) D s Q
  | .pan v s=>Fin Q (.pan v) L D s
 | .pan v L s=>Fin Q (.pan v) L D s
 | .dfr d dst rest L s=>OL X O ops rest (bO dst (.tup []) L) (.fn d::D) s Q
noncomputable def CZ (dst:Option Nat)(v:AV)(t:Tr AV):Tr AV:=match dst with
 |some k=>t.put k v
 |none=>t
theorem lT (fr:Fr)(dst:Option Nat)(v:AV)(s:St):kG fr dst v s=some (.go ⟨CZ dst v fr.t,fr.d⟩ s):=by
 cases dst<;>simp[kG,CZ]
theorem cT.bO {t:Tr AV}{L:Sl}(h:cT t L)(dst:Option Nat)(v:AV):cT (CZ dst v t) (bO dst v L):=by
 cases dst with
 |none=>exact h
 |some d=>exact h.put d v
theorem bD {ops:Array Oper}{D:List DE}{Q:cf}:∀ {l:List Oper} {L:Sl} {s:St} {r:RO},oZ X ops l L s=some r→RK X O ops D Q r→OL X O ops l L D s Q
 |[],L,s,r,h,hr=>by
  cases h
  intro t ht
  exact⟨0,_,_,_,rfl,hr t ht⟩
 |o::rest,L,s,r,h,hr=>by
  intro t ht
  unfold oZ at h
  have go:∀ {dst:Option Nat} {v:AV} {s':St},o.dst=dst→(∀n,eA X (cF X O (ev X O n)) ops o ⟨t,D⟩ s=kG ⟨t,D⟩ dst v s')→oZ X ops rest (Go.Am.bO dst v L) s'=some r→Op1 X O ops (o::rest) ⟨t,D⟩ s Q:=by
   intro dst v s' hd h1 h2
   obtain⟨n,x,fr',s'',g1,g2⟩:=bD h2 hr _ (ht.bO dst v)
   refine⟨n,x,fr',s'',?_,g2⟩
   show jg _ (eA X (cF X O (ev X O n)) ops o ⟨t,D⟩ s)=_
   rw[h1 n,lT]
   exact g1
  split at h
  ·cases h
  ·rename_i hw
   have hw':=eK (fr:=⟨t,D⟩) ht hw
   split at h
   ·rename_i hp
    have hp':=pC (X:=X) (fr:=⟨t,D⟩) ht hp
    refine go rfl (fun n=>?_) h
    show xD X _ o ⟨t,D⟩ s (bI ops ⟨t,D⟩ o)=_
    rw[hw']
    show mX X o ⟨t,D⟩ s=_
    unfold mX
    rw[hp']
   ·cases h
  ·rename_i hw
   have hw':=eK (fr:=⟨t,D⟩) ht hw
   split at h
   ·cases h
   ·rename_i hk
    have hop:=nj (X:=X) (o:=o) (fr:=⟨t,D⟩) (s:=s) ht hk
    have one:∀n,eA X (cF X O (ev X O n)) ops o ⟨t,D⟩ s=my (cF X O (ev X O n)) ⟨t,D⟩ o.dst s (opG X o.op (gL L) s):=fun n=>by
     show xD X _ o ⟨t,D⟩ s (bI ops ⟨t,D⟩ o)=_
     rw[hw',←hop]
     rfl
    generalize opG X o.op (gL L) s=q at h one
    have call:∀ {tg:Tgt} {args:List AV},(∀n,my (cF X O (ev X O n)) ⟨t,D⟩ o.dst s q=iu ⟨t,D⟩ o.dst (cF X O (ev X O n) tg args s))→RK X O ops D Q (.call o.dst tg args rest L s)→Op1 X O ops (o::rest) ⟨t,D⟩ s Q:=by
     intro tg args h1 h2
     obtain⟨n,r,g1,g2⟩:=h2
     cases r with
     |ret v s'=>
      obtain⟨m,x,fr',s'',k1,k2⟩:=g2 _ (ht.bO o.dst v)
      refine⟨max n m,x,fr',s'',?_,k2⟩
      show jg _ (eA X _ ops o ⟨t,D⟩ s)=_
      rw[one,h1,jL (kJ (Nat.le_max_left n m)) _ _ _ _ g1]
      show jg _ (vR ⟨t,D⟩ o.dst v s')=_
      unfold vR
      rw[oW,kF,lT]
      exact q9 (jL (kJ (Nat.le_max_right n m))) _ _ _ _ _ k1
     |pan v s'=>
      refine⟨n, .pan v,⟨t,D⟩,s',?_,g2 t ht⟩
      show jg _ (eA X _ ops o ⟨t,D⟩ s)=_
      rw[one,h1,g1]
      rfl
    match q,h with
    |some (.old v),h=>exact go rfl (fun n=>by rw[one n];rfl) h
    |some (.pure v),h=>exact go rfl (fun n=>by rw[one n];simp only[my,kF]) h
    |some (.val v s'),h=>exact go rfl (fun n=>by rw[one n];simp only[my,vR,oW,kF]) h
    |some (.call f args),h=>
     cases h
     exact call (fun n=>by show kL args _=_;rw[mG]) hr
    |some (.round b args),h=>
     cases h
     exact call (fun n=>by show kL args _=_;rw[mG]) hr
    |some (.pan v),h=>
     cases h
     refine⟨0, .pan v,⟨t,D⟩,s,?_,hr t ht⟩
     show jg _ (eA X _ ops o ⟨t,D⟩ s)=_
     rw[one]
     rfl
    |some (.dfr d),h=>
     cases h
     obtain⟨n,x,fr',s'',g1,g2⟩:=hr _ (ht.bO o.dst (.tup []))
     refine⟨n,x,fr',s'',?_,g2⟩
     show jg _ (eA X _ ops o ⟨t,D⟩ s)=_
     rw[one]
     show jg _ (kG _ _ _ _)=_
     rw[lT]
     exact g1
    |none,h=>cases h
theorem m6 {c:Code}{fr:Fr}{s:St}{Q:cf}(h:∃n x fr' s',px X O (ev X O n) c fr s=some (x,fr',s')∧Q x fr' s'):W X O c fr s Q:=
 let⟨n,x,fr',s',h1,h2⟩:=h;⟨n+1,x,fr',s',h1,h2⟩
theorem ad {id:Nat}{ops:Array Oper}{L:Sl}{D:List DE}{s:St}{Q:cf}{r:RO}(h:oZ X ops ops.toList L s=some r)(hr:RK X O ops D Q r):WL X O (.region id ops false) L D s Q:=fun t ht=>
 m6 (bD h hr t ht)
def vx (X:Ctx)(O:bj)(b:Code)(Q:cf):cf:=fun x fr s=>match x with
 | .norm=>W X O b fr s Q
 |x=>Q x fr s
theorem fO {a b:Code}{L:Sl}{D:List DE}{s:St}{Q:cf}(h:WL X O a L D s (vx X O b Q)):WL X O (.seq a b) L D s Q:=fun t ht=>by
 obtain⟨n,x,fr,s',h1,h2⟩:=h t ht
 cases x with
 |norm=>
  obtain⟨m,y,fr',s'',k1,k2⟩:=h2
  refine⟨max n m+1,y,fr',s'',?_,k2⟩
  show mF _ b (ev X O (max n m) a ⟨t,D⟩ s)=_
  rw[kJ (Nat.le_max_left n m) _ _ _ _ h1]
  exact kJ (Nat.le_max_right n m) _ _ _ _ k1
 | _=>
  refine⟨n+1,_,fr,s',?_,h2⟩
  show mF _ b (ev X O n a ⟨t,D⟩ s)=_
  rw[h1];rfl
theorem cJ {b:Code}{L:Sl}{D:List DE}{s:St}{Q:cf}(h:WL X O b L D s Q):Fin (vx X O b Q) .norm L D s:=h
theorem Be {b:Code}{L:Sl}{D:List DE}{s:St}{Q:cf}{i:Nat}(h:Fin Q (.brk i) L D s):Fin (vx X O b Q) (.brk i) L D s:=h
theorem BF {b:Code}{L:Sl}{D:List DE}{s:St}{Q:cf}(h:Fin Q .ret L D s):Fin (vx X O b Q) .ret L D s:=h
theorem BW {b:Code}{L:Sl}{D:List DE}{s:St}{Q:cf}{v:AV}(h:Fin Q (.pan v) L D s):Fin (vx X O b Q) (.pan v) L D s:=h
def rH (id:Nat)(Q:cf):cf:=fun x fr s=>match x with
 | .brk j=>match Nat.beq j id with
  |true=>Q .norm fr s
  |false=>Q (.brk j) fr s
 |x=>Q x fr s
theorem BS {id:Nat}{b:Code}{L:Sl}{D:List DE}{s:St}{Q:cf}(h:WL X O b L D s (rH id Q)):WL X O (.block id b) L D s Q:=fun t ht=>by
 obtain⟨n,x,fr,s',h1,h2⟩:=h t ht
 have e:∀r,mJ id (some (x,fr,s'))=r→ev X O (n+1) (.block id b) ⟨t,D⟩ s=r:=fun r hr=>by
  show mJ id (ev X O n b ⟨t,D⟩ s)=r
  rw[h1];exact hr
 cases x with
 |brk j=>
  simp only[rH] at h2
  cases hb:Nat.beq j id with
  |true=>rw[hb] at h2;exact⟨n+1, .norm,fr,s',e _ (by simp only[mJ,hb]),h2⟩
  |false=>rw[hb] at h2;exact⟨n+1, .brk j,fr,s',e _ (by simp only[mJ,hb]),h2⟩
 | _=>exact⟨n+1,_,fr,s',e _ rfl,h2⟩
theorem Md {id:Nat}{L:Sl}{D:List DE}{s:St}{Q:cf}(h:Fin Q .norm L D s):Fin (rH id Q) .norm L D s:=h
theorem AT {id:Nat}{L:Sl}{D:List DE}{s:St}{Q:cf}(h:Fin Q .ret L D s):Fin (rH id Q) .ret L D s:=h
theorem AA {id:Nat}{L:Sl}{D:List DE}{s:St}{Q:cf}{v:AV}(h:Fin Q (.pan v) L D s):Fin (rH id Q) (.pan v) L D s:=h
theorem yX {id j:Nat}{L:Sl}{D:List DE}{s:St}{Q:cf}(e:Nat.beq j id=true)(h:Fin Q .norm L D s):Fin (rH id Q) (.brk j) L D s:=fun t ht=>by simp only[rH,e];exact h t ht
theorem aa {id j:Nat}{L:Sl}{D:List DE}{s:St}{Q:cf}(e:Nat.beq j id=false)(h:Fin Q (.brk j) L D s):Fin (rH id Q) (.brk j) L D s:=fun t ht=>by simp only[rH,e];exact h t ht
theorem IC {b:Code}{L:Sl}{D:List DE}{s:St}{Q:cf}(h:WL X O b L D s Q):WL X O (.scope b) L D s Q:=fun t ht=>m6 (h t ht)
theorem oC {L:Sl}{D:List DE}{s:St}{Q:cf}(h:Fin Q .norm L D s):WL X O .skip L D s Q:=fun t ht=>m6 ⟨0,_,_,_,rfl,h t ht⟩
theorem B5 {l:Nat}{L:Sl}{D:List DE}{s:St}{Q:cf}(h:Fin Q .norm L D s):WL X O (.label l) L D s Q:=fun t ht=>m6 ⟨0,_,_,_,rfl,h t ht⟩
theorem K8 {id:Nat}{L:Sl}{D:List DE}{s:St}{Q:cf}(h:Fin Q (.brk id) L D s):WL X O (.exit id) L D s Q:=fun t ht=>m6 ⟨0,_,_,_,rfl,h t ht⟩
theorem Nd {L:Sl}{D:List DE}{s:St}{Q:cf}(h:Fin Q .ret L D s):WL X O .ret L D s Q:=fun t ht=>m6 ⟨0,_,_,_,rfl,h t ht⟩
theorem ae {x:Operand}{a b:Code}{L:Sl}{D:List DE}{s:St}{Q:cf}{c:Bool}(hk:knO L x=true)(hc:gL L x= .bool c)(ha:c=true→WL X O a L D s Q)(hb:c=false→WL X O b L D s Q):WL X O (.cond x a b) L D s Q:=fun t ht=>by
 refine m6 ?_
 have e:(⟨t,D⟩:Fr).opd x= .bool c:=(pX (fr:=⟨t,D⟩) ht hk).trans hc
 cases c with
 |true=>
  obtain⟨n,y,fr,s',h1,h2⟩:=ha rfl t ht
  exact⟨n,y,fr,s',by show qM _ a b _ s _=_;rw[e];exact h1,h2⟩
 |false=>
  obtain⟨n,y,fr,s',h1,h2⟩:=hb rfl t ht
  exact⟨n,y,fr,s',by show qM _ a b _ s _=_;rw[e];exact h1,h2⟩
def oO {α:Type}(I:α→Sl→St→Prop)(μ:α→Nat)(D:List DE)(Q:cf)(a:α):cf:=fun x fr s=>match x with
 | .norm=>∃b L,I b L s∧μ b<μ a∧fr.d=D∧cT fr.t L
 |x=>Q x fr s
theorem aV {α:Type}(I:α→Sl→St→Prop)(μ:α→Nat){b:Code}{D:List DE}{Q:cf}(h:∀a L s,I a L s→WL X O b L D s (oO I μ D Q a)):∀ (n:Nat) (a:α) (L:Sl) (s:St),μ a≤n→I a L s→WL X O (.loop b) L D s Q:=by
 intro n
 induction n with
 |zero=>
  intro a L s hm ha t ht
  obtain⟨k,x,fr,s',h1,h2⟩:=h a L s ha t ht
  cases x with
  |norm=>obtain⟨b',L',_,q,_⟩:=h2;omega
  | _=>exact⟨k+1,_,fr,s',by show mF _ (.loop b) (ev X O k b ⟨t,D⟩ s)=_;rw[h1];rfl,h2⟩
 |succ n ih=>
  intro a L s hm ha t ht
  obtain⟨k,x,fr,s',h1,h2⟩:=h a L s ha t ht
  cases x with
  |norm=>
   obtain⟨b',L',h3,q,hd,hkn⟩:=h2
   obtain⟨t',d'⟩:=fr
   cases hd
   obtain⟨m,y,fr',s'',k1,k2⟩:=ih b' L' s' (by omega) h3 t' hkn
   refine⟨max k m+1,y,fr',s'',?_,k2⟩
   show mF _ (.loop b) (ev X O (max k m) b ⟨t,_⟩ s)=_
   rw[kJ (Nat.le_max_left k m) _ _ _ _ h1]
   exact kJ (Nat.le_max_right k m) _ _ _ _ k1
  | _=>exact⟨k+1,_,fr,s',by show mF _ (.loop b) (ev X O k b ⟨t,D⟩ s)=_;rw[h1];rfl,h2⟩
theorem aH {α:Type}{I:α→Sl→St→Prop}{μ:α→Nat}{D:List DE}{Q:cf}{a:α}{L:Sl}{s:St}(b:α)(M:Sl)(hI:I b M s)(hm:μ b<μ a)(hM:aI (M.map (·.1)) L=M):Fin (oO I μ D Q a) .norm L D s:=fun t ht=>
 ⟨b,M,hI,hm,rfl,by rw[←hM];exact ht.jn _⟩
theorem Aa {α:Type}{I:α→Sl→St→Prop}{μ:α→Nat}{D:List DE}{Q:cf}{a:α}{L:Sl}{s:St}{i:Nat}(h:Fin Q (.brk i) L D s):Fin (oO I μ D Q a) (.brk i) L D s:=h
theorem Ap {α:Type}{I:α→Sl→St→Prop}{μ:α→Nat}{D:List DE}{Q:cf}{a:α}{L:Sl}{s:St}(h:Fin Q .ret L D s):Fin (oO I μ D Q a) .ret L D s:=h
theorem zA {α:Type}{I:α→Sl→St→Prop}{μ:α→Nat}{D:List DE}{Q:cf}{a:α}{L:Sl}{s:St}{v:AV}(h:Fin Q (.pan v) L D s):Fin (oO I μ D Q a) (.pan v) L D s:=h
noncomputable def rG (X:Ctx)(L:Sl)(s:St):ResultVar→Option AV
 | .tmp t=>lk L t
 | .cell a t=>match knO L (.tmp a) with
  |true=>loadT X t (gL L (.tmp a)) s
  |false=>none
noncomputable def iN (X:Ctx)(L:Sl)(s:St):List ResultVar→Option (List AV)
 |[]=>some []
 |r::rs=>match rG X L s r with
  |some v=>match iN X L s rs with
   |some l=>some (v::l)
   |none=>none
  |none=>none
theorem gv {t:Tr AV}{L:Sl}(h:cT t L){D:List DE}{s:St}:∀ {rs:List ResultVar} {l:List AV},iN X L s rs=some l→ux X ⟨t,D⟩ s rs=some l
 |[],l,hr=>hr
 |r::rs,l,hr=>by
  unfold iN at hr
  unfold ux
  have e:∀v,rG X L s r=some v→xS X ⟨t,D⟩ s r=some v:=fun v hv=>by
   cases r with
   |tmp k=>simp only[rG] at hv;simp only[xS,h _ _ hv]
   |cell a ty=>
    simp only[rG] at hv
    cases hk:knO L (.tmp a) with
    |false=>rw[hk] at hv;cases hv
    |true=>rw[hk] at hv;simp only[xS,pX (fr:=⟨t,D⟩) h hk];exact hv
  split at hr
  ·rename_i v hv
   rw[e v hv]
   simp only
   split at hr
   ·rename_i l' hl
    rw[gv h hl]
    exact hr
   ·cases hr
  ·cases hr
def eV:List AV→AV
 |[v]=>v
 |l=> .tup l
def tz (X:Ctx)(fn:Func)(Q:CR→Prop):cf:=fun x fr s=>match x with
 | .norm=>fr.d=[]∧∃l,ux X fr s fn.results.toList=some l∧Q (.ret (eV l) s)
 | .ret=>fr.d=[]∧∃l,ux X fr s fn.results.toList=some l∧Q (.ret (eV l) s)
 | .pan v=>fr.d=[]∧Q (.pan v s)
 | .brk _=>False
theorem nh {fn:Func}{fr:Fr}{s:St}{l:List AV}(h:ux X fr s fn.results.toList=some l):Ea X fn fr s=some (.ret (eV l) s):=by
 unfold Ea su
 rw[h]
 match l with
 |[]=>rfl
 |[_]=>rfl
 | _::_::_=>rfl
def aD:List AV→Nat→Sl
 |[],_=>[]
 |v::l,i=>(i,v)::aD l (i+1)
theorem Dy:∀ (l:List AV) (i k:Nat) (v:AV),lk (aD l i) k=some v→i≤k∧l[k- i]? =some v
 |[],i,k,v,h=>by cases h
 |u::l,i,k,v,h=>by
  simp only[aD,lk] at h
  cases hb:Nat.beq i k with
  |true=>rw[hb] at h;have:=Nat.beq_eq.mp hb;subst this;exact⟨Nat.le_refl _,by simpa using h⟩
  |false=>
   rw[hb] at h
   obtain⟨h1,h2⟩:=Dy l (i+1) k v h
   refine⟨by omega,?_⟩
   rw[show k- i=(k- (i+1))+1 by omega]
   simpa using h2
theorem m3 {α:Type}:∀ (l:List α) (i:Nat) (t:Tr α) (j:Nat),j<i→(Tr.kg l i t).get j=t.get j
 |[],i,t,j,_=>rfl
 |x::xs,i,t,j,h=>by
  simp only[Tr.kg,Tr.rN,o9]
  rw[m3 xs (i+1) _ j (by omega),Tr.cV,if_neg (by omega)]
theorem iG {α:Type}:∀ (l:List α) (i:Nat) (t:Tr α) (j:Nat),i≤j→(Tr.kg l i t).get j=if j<i+l.length then l[j- i]? else t.get j
 |[],i,t,j,h=>by simp only[List.length_nil,Nat.add_zero];rw[if_neg (by omega)];rfl
 |x::xs,i,t,j,h=>by
  simp only[Tr.kg,Tr.rN,o9,List.length_cons]
  by_cases e:j=i
  ·subst e
   rw[m3 xs (j+1) _ j (by omega),Tr.cV,if_pos rfl,if_pos (by omega)]
   simp
  ·rw[iG xs (i+1) _ j (by omega),Tr.cV,if_neg e]
   by_cases hj:j<i+1+xs.length
   ·rw[if_pos hj,if_pos (by omega),show j- i=(j- (i+1))+1 by omega];simp
   ·rw[if_neg hj,if_neg (by omega)]
theorem dF {α:Type}(l:List α)(j:Nat):(Tr.of l).get j=l[j]? :=by
 unfold Tr.of
 rw[iG l 0 _ j (by omega)]
 by_cases h:j<0+l.length
 ·rw[if_pos h];simp
 ·rw[if_neg h,Tr.ry,List.getElem?_eq_none (by omega)]
theorem oI (args:List AV):cT (Tr.of args) (aD args 0):=fun k v h=>by
 obtain⟨_,h2⟩:=Dy args 0 k v h
 rw[dF];simpa using h2
theorem bb {f:FuncId}{fn:Func}{c:Code}{args:List AV}{s:St}{Q:CR→Prop}(ho:O f=none)(hf:X.fns.get f=some fn)(hc:fn.body=some c)(h:WL X O c (aD args 0) [] s (tz X fn Q)):Ca X O (.fn f) args s Q:=by
 obtain⟨n,x,fr,s',h1,h2⟩:=h _ (oI args)
 have e:∀r,rD X (ev X O n) fn (some (x,fr,s'))=some r→cF X O (ev X O n) (.fn f) args s=some r:=fun r hr=>by
  show fN X O (ev X O n) f args s=_
  unfold fN
  rw[ho]
  show dE X (ev X O n) f args s=_
  unfold dE
  rw[hf]
  simp only[hc]
  rw[h1];exact hr
 obtain⟨t',d'⟩:=fr
 cases x with
 |norm=>obtain⟨rfl,l,h3,h4⟩:=h2;exact⟨n,_,e _ (nh h3),h4⟩
 |ret=>obtain⟨rfl,l,h3,h4⟩:=h2;exact⟨n,_,e _ (nh h3),h4⟩
 |pan v=>obtain⟨rfl,h4⟩:=h2;exact⟨n,_,e (.pan v s') rfl,h4⟩
 |brk i=>exact h2.elim
theorem ai {fn:Func}{L:Sl}{s:St}{Q:CR→Prop}{l:List AV}(h:iN X L s fn.results.toList=some l)(hQ:Q (.ret (eV l) s)):Fin (tz X fn Q) .ret L [] s:=fun _ ht=>⟨rfl,l,gv ht h,hQ⟩
theorem sG {fn:Func}{L:Sl}{s:St}{Q:CR→Prop}{l:List AV}(h:iN X L s fn.results.toList=some l)(hQ:Q (.ret (eV l) s)):Fin (tz X fn Q) .norm L [] s:=fun _ ht=>⟨rfl,l,gv ht h,hQ⟩
theorem bX {fn:Func}{L:Sl}{s:St}{v:AV}{Q:CR→Prop}(hQ:Q (.pan v s)):Fin (tz X fn Q) (.pan v) L [] s:=fun _ _=>⟨rfl,hQ⟩
theorem ku {f:FuncId}{g:List AV→St→Option CR}{args:List AV}{s:St}{r:CR}{Q:CR→Prop}(ho:O f=some g)(h:g args s=some r)(hQ:Q r):Ca X O (.fn f) args s Q:=
 ⟨0,r,by show fN X O _ f args s=_;unfold fN;rw[ho];exact h,hQ⟩
end
end Go.Am
end
section
namespace Go.Am
inductive RD where
 |fin (L:Sl) (s:St)
 |call (o:Oper) (t:Tgt) (args:List AV) (pend:List bn) (rest:List DS) (L:Sl) (s:St)
 |pan (v:AV) (s:St)
noncomputable def aC (X:Ctx)(ops:Array Oper)(L:Sl)(s:St)(p:bn):Bool:=
 match p.laid with
 |some (b,x)=>pD s b x
 |none=>match dG ops L p.o with
  |some true=>match dV L p.o.op with
   |true=>aB p.v (opG X p.o.op (gL L) s)
   |false=>false
  |some false=>match p.v with
   | .tup []=>true
   | _=>false
  |none=>false
theorem xH {X:Ctx}{ops:Array Oper}{fr:Fr}{L:Sl}{s:St}(h:cT fr.t L){p:bn}(hs:aC X ops L s p=true):m5 X ops fr s p=true:=by
 unfold aC at hs
 unfold m5
 cases hl:p.laid with
 |some q=>obtain⟨b,x⟩:=q;rw[hl] at hs;exact hs
 |none=>
  rw[hl] at hs
  simp only at hs ⊢
  cases hw:dG ops L p.o with
  |none=>rw[hw] at hs;cases hs
  |some b=>
   rw[hw] at hs
   rw[eK h hw]
   cases b with
   |false=>exact hs
   |true=>
    simp only at hs ⊢
    cases hk:dV L p.o.op with
    |false=>rw[hk] at hs;cases hs
    |true=>rw[hk] at hs;rw[nj h hk];exact hs
noncomputable def pL (X:Ctx)(ops:Array Oper)(o:Oper)(pend:List bn)(L:Sl)(s:St):Option (List bn):=
 match(pend.filter fun p=> !bS o p.i).all (aC X ops L s) with
 |true=>some (pend.filter fun p=> !bS o p.i)
 |false=>none
noncomputable def Cc (i:Nat)(o:Oper)(pend:List bn)(L:Sl)(s:St)(k:List bn→Sl→St→Option RD):Option OR→Option RD
 |some (.old v)=>k (⟨i,o,v,none⟩::pend) (bO o.dst v L) s
 |some (.pure v)=>k (⟨i,o,v,none⟩::pend) (bO o.dst v L) s
 |some (.val v s')=>match s.h.get s.nx with
  |none=>match s'.h.get s.nx with
   |some b=>k (⟨i,o,v,some (s.nx,b)⟩::pend) (bO o.dst v L) s'
   |none=>none
  | _=>none
 | _=>none
noncomputable def wX (X:Ctx)(ops:Array Oper)(o:Oper)(pend:List bn)(rest:List DS)(L:Sl)(s:St)(k:List bn→Sl→St→Option RD):Option OR→Option RD
 |some (.old v)=>match pL X ops o pend (bO o.dst v L) s with
  |some p=>k p (bO o.dst v L) s
  |none=>none
 |some (.pure v)=>match pL X ops o pend (bO o.dst v L) s with
  |some p=>k p (bO o.dst v L) s
  |none=>none
 |some (.val v s')=>match pL X ops o pend (bO o.dst v L) s' with
  |some p=>k p (bO o.dst v L) s'
  |none=>none
 |some (.call f args)=>some (.call o (.fn f) args pend rest L s)
 |some (.round b args)=>some (.call o (.rnd b) args pend rest L s)
 |some (.pan v)=>some (.pan v s)
 | _=>none
noncomputable def lL (X:Ctx)(ops:Array Oper):List DS→List bn→Sl→St→Option RD
 |[],_,L,s=>some (.fin L s)
 | .stop::_,_,_,_=>none
 | .take i o::rest,pend,L,s=>match dG ops L o with
  |none=>none
  |some false=>lL X ops rest (⟨i,o, .tup [],none⟩::pend) (bO o.dst (.tup []) L) s
  |some true=>match dV L o.op with
   |false=>none
   |true=>Cc i o pend L s (lL X ops rest) (opG X o.op (gL L) s)
 | .act _ o::rest,pend,L,s=>match dG ops L o with
  |none=>none
  |some false=>match aP X L o with
   |true=>match pL X ops o pend (bO o.dst (.tup []) L) s with
    |some p=>lL X ops rest p (bO o.dst (.tup []) L) s
    |none=>none
   |false=>none
  |some true=>match dV L o.op with
   |false=>none
   |true=>wX X ops o pend rest L s (lL X ops rest) (opG X o.op (gL L) s)
section
variable {X:Ctx}{O:bj}
def DL (X:Ctx)(O:bj)(ops:Array Oper)(l:List DS)(pend:List bn)(L:Sl)(D:List DE)(s:St)(Q:cf):Prop:=
 ∀t,cT t L→∃n x fr' s',py X (cF X O (ev X O n)) ops l pend ⟨t,D⟩ s=some (x,fr',s')∧Q x fr' s'
def RKD (X:Ctx)(O:bj)(ops:Array Oper)(D:List DE)(Q:cf):RD→Prop
 | .fin L s=>Fin Q .norm L D s
 | .call o t args pend rest L s=>Ca X O t args s fun r=>match r with
  | .ret v s=>∃p,pL X ops o pend (bO o.dst v L) s=some p∧DL X O ops rest p (bO o.dst v L) D s Q
  | .pan v s=>Fin Q (.pan v) [] D s
 | .pan v s=>Fin Q (.pan v) [] D s
theorem cT.nil (t:Tr AV):cT t []:=fun _ _ h=>by cases h
theorem tT {ops:Array Oper}{fr:Fr}{L:Sl}{s:St}(h:cT fr.t L){o:Oper}{pend p:List bn}(hl:pL X ops o pend L s=some p):(pend.filter fun p=> !bS o p.i).all (m5 X ops fr s)=true∧p=pend.filter fun p=> !bS o p.i:=by
 unfold pL at hl
 split at hl
 ·rename_i ha
  cases hl
  refine⟨List.all_eq_true.mpr fun q hq=>xH h (List.all_eq_true.mp ha q hq),rfl⟩
 ·cases hl
theorem zz {ops:Array Oper}{D:List DE}{Q:cf}:∀ {l:List DS} {pend:List bn} {L:Sl} {s:St} {r:RD},lL X ops l pend L s=some r→RKD X O ops D Q r→DL X O ops l pend L D s Q
 |[],pend,L,s,r,h,hr=>by
  cases h
  intro t ht
  exact⟨0,_,_,_,rfl,hr t ht⟩
 | .stop::_,_,_,_,_,h,_=>by cases h
 | .take i o::rest,pend,L,s,r,h,hr=>by
  intro t ht
  unfold lL at h
  have go:∀ {v:AV} {la:Option (Nat×AB)} {s':St},kC X i o ⟨t,D⟩ s (bI ops ⟨t,D⟩ o)=some (⟨i,o,v,la⟩,⟨((⟨t,D⟩:Fr).put o.dst v).t,D⟩,s')→lL X ops rest (⟨i,o,v,la⟩::pend) (Go.Am.bO o.dst v L) s'=some r→
    ∃n x fr' s',py X (cF X O (ev X O n)) ops (.take i o::rest) pend ⟨t,D⟩ s=some (x,fr',s')∧Q x fr' s':=by
   intro v la s' h1 h2
   have hk:cT ((⟨t,D⟩:Fr).put o.dst v).t (Go.Am.bO o.dst v L):=by
    have:=ht.bO o.dst v
    cases hd:o.dst with
    |none=>rw[hd] at this;exact this
    |some d=>rw[hd] at this;exact this
   obtain⟨n,x,fr',s'',g1,g2⟩:=zz h2 hr _ hk
   refine⟨n,x,fr',s'',?_,g2⟩
   show en X ops i o pend ⟨t,D⟩ s _=_
   unfold en
   rw[h1]
   exact g1
  split at h
  ·cases h
  ·rename_i hw
   refine go ?_ h
   rw[eK (fr:=⟨t,D⟩) ht hw]
   simp only[kC,kH]
  ·rename_i hw
   have hw':=eK (fr:=⟨t,D⟩) ht hw
   split at h
   ·cases h
   ·rename_i hk
    have hop:=nj (X:=X) (o:=o) (fr:=⟨t,D⟩) (s:=s) ht hk
    rw[←hop] at h
    match hq:fZ X o ⟨t,D⟩ s,h with
    |some (.old v),h=>exact go (by rw[hw'];simp only[kC,B2,hq,kH]) h
    |some (.pure v),h=>exact go (by rw[hw'];simp only[kC,B2,hq,kH,kF]) h
    |some (.val v s'),h=>
     unfold Cc at h
     simp only at h
     split at h
     ·rename_i hf
      split at h
      ·rename_i b hb
       exact go (by rw[hw'];simp only[kC,B2,hq,hf,hb,kH,kF,oW]) h
      ·cases h
     ·cases h
    |some (.call _ _),h=>cases h
    |some (.round _ _),h=>cases h
    |some (.pan _),h=>cases h
    |some (.dfr _),h=>cases h
    |none,h=>cases h
 | .act i o::rest,pend,L,s,r,h,hr=>by
  intro t ht
  unfold lL at h
  have nz:∀v,cT (CZ o.dst v t) (Go.Am.bO o.dst v L):=fun v=>ht.bO o.dst v
  have go:∀ {v:AV} {s':St} {p:List bn},(∀n,eA X (cF X O (ev X O n)) ops o ⟨t,D⟩ s=kG ⟨t,D⟩ o.dst v s')→pL X ops o pend (Go.Am.bO o.dst v L) s'=some p→lL X ops rest p (Go.Am.bO o.dst v L) s'=some r→
    ∃n x fr' s',py X (cF X O (ev X O n)) ops (.act i o::rest) pend ⟨t,D⟩ s=some (x,fr',s')∧Q x fr' s':=by
   intro v s' p h1 h2 h3
   obtain⟨n,x,fr',s'',g1,g2⟩:=zz h3 hr _ (nz v)
   refine⟨n,x,fr',s'',?_,g2⟩
   show sH X _ ops o pend ⟨t,D⟩ s _=_
   obtain⟨k1,k2⟩:=tT (fr:=⟨CZ o.dst v t,D⟩) (nz v) h2
   unfold sH
   rw[h1 n,lT]
   simp only
   rw[k1]
   rw[←k2]
   exact g1
  split at h
  ·cases h
  ·rename_i hw
   have hw':=eK (fr:=⟨t,D⟩) ht hw
   split at h
   ·rename_i hp
    have hp':=pC (X:=X) (fr:=⟨t,D⟩) ht hp
    split at h
    ·rename_i p hl
     refine go (fun n=>?_) hl h
     show xD X _ o ⟨t,D⟩ s (bI ops ⟨t,D⟩ o)=_
     rw[hw']
     show mX X o ⟨t,D⟩ s=_
     unfold mX
     rw[hp']
    ·cases h
   ·cases h
  ·rename_i hw
   have hw':=eK (fr:=⟨t,D⟩) ht hw
   split at h
   ·cases h
   ·rename_i hk
    have hop:=nj (X:=X) (o:=o) (fr:=⟨t,D⟩) (s:=s) ht hk
    have one:∀n,eA X (cF X O (ev X O n)) ops o ⟨t,D⟩ s=my (cF X O (ev X O n)) ⟨t,D⟩ o.dst s (opG X o.op (gL L) s):=fun n=>by
     show xD X _ o ⟨t,D⟩ s (bI ops ⟨t,D⟩ o)=_
     rw[hw',←hop]
     rfl
    generalize opG X o.op (gL L) s=q at h one
    have call:∀ {tg:Tgt} {args:List AV},(∀n,my (cF X O (ev X O n)) ⟨t,D⟩ o.dst s q=iu ⟨t,D⟩ o.dst (cF X O (ev X O n) tg args s))→RKD X O ops D Q (.call o tg args pend rest L s)→
      ∃n x fr' s',py X (cF X O (ev X O n)) ops (.act i o::rest) pend ⟨t,D⟩ s=some (x,fr',s')∧Q x fr' s':=by
     intro tg args h1 h2
     obtain⟨n,r,g1,g2⟩:=h2
     cases r with
     |ret v s'=>
      obtain⟨p,k1,k2⟩:=g2
      obtain⟨m,x,fr',s'',k3,k4⟩:=k2 _ (nz v)
      obtain⟨k5,k6⟩:=tT (fr:=⟨CZ o.dst v t,D⟩) (nz v) k1
      refine⟨max n m,x,fr',s'',?_,k4⟩
      show sH X _ ops o pend ⟨t,D⟩ s _=_
      unfold sH
      rw[one,h1,jL (kJ (Nat.le_max_left n m)) _ _ _ _ g1]
      have e:iu ⟨t,D⟩ o.dst (some (.ret v s'))=some (.go ⟨CZ o.dst v t,D⟩ s'):=by
       simp only[iu,vR,oW,kF,lT]
      rw[e]
      simp only
      rw[k5,←k6]
      exact uN (jL (kJ (Nat.le_max_right n m))) _ _ _ _ _ _ k3
     |pan v s'=>
      refine⟨n, .pan v,⟨.e,D⟩,s',?_,g2 _ (cT.nil _)⟩
      show sH X _ ops o pend ⟨t,D⟩ s _=_
      unfold sH
      rw[one,h1,g1]
      rfl
    match q,h with
    |some (.old v),h=>
     unfold wX at h
     simp only at h
     split at h
     ·rename_i p hl;exact go (fun n=>by rw[one n];rfl) hl h
     ·cases h
    |some (.pure v),h=>
     unfold wX at h
     simp only at h
     split at h
     ·rename_i p hl;exact go (fun n=>by rw[one n];simp only[my,kF]) hl h
     ·cases h
    |some (.val v s'),h=>
     unfold wX at h
     simp only at h
     split at h
     ·rename_i p hl;exact go (fun n=>by rw[one n];simp only[my,vR,oW,kF]) hl h
     ·cases h
    |some (.call f args),h=>
     cases h
     exact call (fun n=>by show kL args _=_;rw[mG]) hr
    |some (.round b args),h=>
     cases h
     exact call (fun n=>by show kL args _=_;rw[mG]) hr
    |some (.pan v),h=>
     cases h
     refine⟨0, .pan v,⟨.e,D⟩,s,?_,hr _ (cT.nil _)⟩
     show sH X _ ops o pend ⟨t,D⟩ s _=_
     unfold sH
     rw[one]
     rfl
    |some (.dfr d),h=>cases h
    |none,h=>cases h
def Nw (ops:Array Oper)(p:Nat×Bool):DS:=match ops.toList[p.1]? with
 |some o=>match p.2 with
  |true=> .act p.1 o
  |false=> .take p.1 o
 |none=> .stop
def ql (ops:Array Oper):List (Nat×Bool)→List DS
 |[]=>[]
 |p::l=>Nw ops p::ql ops l
theorem Li {id:Nat}{ops:Array Oper}(ix:List (Nat×Bool)){L:Sl}{D:List DE}{s:St}{Q:cf}{r:RD}(hs:nO (ef ops) (ops.size+1) 0=ql ops ix)(h:lL X ops (ql ops ix) [] L s=some r)(hr:RKD X O ops D Q r):WL X O (.region id ops true) L D s Q:=fun t ht=>by
 obtain⟨n,x,fr',s',h1,h2⟩:=zz h hr t ht
 refine⟨n+1,x,fr',s',?_,h2⟩
 show oF X (cF X O (ev X O n)) ops (ef ops) (ops.size+1) 0 [] ⟨t,D⟩ s=_
 rw[te,hs]
 exact h1
abbrev Ix:=List (Nat×Option (List Nat))
def flX:Ix→List (Nat×Bool)
 |[]=>[]
 |(i,none)::l=>(i,false)::flX l
 |(i,some _)::l=>(i,true)::flX l
def jR (ops:Array Oper):Ix→List Nat→Bool
 |[],_=>true
 |(i,none)::l,pend=>jR ops l (i::pend)
 |(i,some rem)::l,pend=>match ops.toList[i]? with
  |some o=>(pend.filter (fun j=> !bS o j)==rem)&&jR ops l rem
  |none=>false
noncomputable def qx (X:Ctx)(ops:Array Oper)(rem:List Nat)(pend:List bn)(L:Sl)(s:St):Option (List bn):=match rem with
 |[]=>some []
 |j::rem=>match(pend.filter fun p=>dx p.i (j::rem)).all (aC X ops L s) with
  |true=>some (pend.filter fun p=>dx p.i (j::rem))
  |false=>none
theorem wW {a:Nat}:∀ {l:List Nat},dx a l=true↔a∈l
 |[]=>by simp[dx]
 |b::l=>by
  simp only[dx,List.mem_cons]
  cases h:Nat.beq a b with
  |true=>simp[Nat.beq_eq.mp h]
  |false=>
   have:a≠b:=fun e=>by rw[e] at h;simp at h
   simp[this,wW (l:=l)]
theorem vy {o:Oper}{rem:List Nat}:∀ {pend:List bn},(pend.map (·.i)).filter (fun j=> !bS o j)=rem→(pend.filter fun p=> !bS o p.i)=pend.filter fun p=>dx p.i rem:=by
 intro pend h
 refine List.filter_congr fun p hp=>?_
 rw[Bool.eq_iff_iff,wW,←h,List.mem_filter]
 exact⟨fun hw=>⟨List.mem_map.mpr ⟨p,hp,rfl⟩,hw⟩,fun hw=>hw.2⟩
theorem DR {ops:Array Oper}{o:Oper}{rem:List Nat}{pend p:List bn}{L:Sl}{s:St}(h:(pend.map (·.i)).filter (fun j=> !bS o j)=rem)(hl:qx X ops rem pend L s=some p):pL X ops o pend L s=some p∧p.map (·.i)=rem:=by
 have hf:=vy h
 have hm:(pend.filter fun p=> !bS o p.i).map (·.i)=rem:=by
  rw[←h,List.filter_map];rfl
 unfold pL
 cases rem with
 |nil=>
  cases hl
  have:(pend.filter fun p=> !bS o p.i)=[]:=List.map_eq_nil_iff.mp hm
  rw[this];exact⟨rfl,rfl⟩
 |cons j rem=>
  unfold qx at hl
  simp only at hl
  rw[hf]
  split at hl
  ·rename_i ha
   cases hl
   refine⟨rfl,?_⟩
   rw[←hf];exact hm
  ·cases hl
inductive RX where
 |fin (L:Sl) (s:St)
 |call (dst:Option Nat) (rem:List Nat) (t:Tgt) (args:List AV) (pend:List bn) (rest:Ix) (L:Sl) (s:St)
 |pan (v:AV) (s:St)
noncomputable def qv (i:Nat)(o:Oper)(pend:List bn)(L:Sl)(s:St)(k:List bn→Sl→St→Option RX):Option OR→Option RX
 |some (.old v)=>k (⟨i,o,v,none⟩::pend) (bO o.dst v L) s
 |some (.pure v)=>k (⟨i,o,v,none⟩::pend) (bO o.dst v L) s
 |some (.val v s')=>match s.h.get s.nx with
  |none=>match s'.h.get s.nx with
   |some b=>k (⟨i,o,v,some (s.nx,b)⟩::pend) (bO o.dst v L) s'
   |none=>none
  | _=>none
 | _=>none
noncomputable def jl (X:Ctx)(ops:Array Oper)(rem:List Nat)(pend:List bn)(L:Sl)(s:St)(k:List bn→Sl→St→Option RX):Option RX:=match qx X ops rem pend L s with
 |some p=>k p L s
 |none=>none
noncomputable def AU (X:Ctx)(ops:Array Oper)(o:Oper)(rem:List Nat)(pend:List bn)(rest:Ix)(L:Sl)(s:St)(k:List bn→Sl→St→Option RX):Option OR→Option RX
 |some (.old v)=>jl X ops rem pend (bO o.dst v L) s k
 |some (.pure v)=>jl X ops rem pend (bO o.dst v L) s k
 |some (.val v s')=>jl X ops rem pend (bO o.dst v L) s' k
 |some (.call f args)=>some (.call o.dst rem (.fn f) args pend rest L s)
 |some (.round b args)=>some (.call o.dst rem (.rnd b) args pend rest L s)
 |some (.pan v)=>some (.pan v s)
 | _=>none
noncomputable def iB (X:Ctx)(ops:Array Oper):Ix→List bn→Sl→St→Option RX
 |[],_,L,s=>some (.fin L s)
 |(i,none)::rest,pend,L,s=>match ops.toList[i]? with
  |none=>none
  |some o=>match dG ops L o with
   |none=>none
   |some false=>iB X ops rest (⟨i,o, .tup [],none⟩::pend) (bO o.dst (.tup []) L) s
   |some true=>match dV L o.op with
    |false=>none
    |true=>qv i o pend L s (iB X ops rest) (opG X o.op (gL L) s)
 |(i,some rem)::rest,pend,L,s=>match ops.toList[i]? with
  |none=>none
  |some o=>match dG ops L o with
   |none=>none
   |some false=>match aP X L o with
    |true=>jl X ops rem pend (bO o.dst (.tup []) L) s (iB X ops rest)
    |false=>none
   |some true=>match dV L o.op with
    |false=>none
    |true=>AU X ops o rem pend rest L s (iB X ops rest) (opG X o.op (gL L) s)
def DX (X:Ctx)(O:bj)(ops:Array Oper)(l:Ix)(pend:List bn)(L:Sl)(D:List DE)(s:St)(Q:cf):Prop:=
 jR ops l (pend.map (·.i))=true→DL X O ops (ql ops (flX l)) pend L D s Q
def RKX (X:Ctx)(O:bj)(ops:Array Oper)(D:List DE)(Q:cf):RX→Prop
 | .fin L s=>Fin Q .norm L D s
 | .call dst rem t args pend rest L s=>Ca X O t args s fun r=>match r with
  | .ret v s=>∃p,qx X ops rem pend (bO dst v L) s=some p∧DX X O ops rest p (bO dst v L) D s Q
  | .pan v s=>Fin Q (.pan v) [] D s
 | .pan v s=>Fin Q (.pan v) [] D s
theorem uU {ops:Array Oper}{D:List DE}{Q:cf}:∀ {l:Ix} {pend:List bn} {L:Sl} {s:St} {r:RX},jR ops l (pend.map (·.i))=true→iB X ops l pend L s=some r→∃rd,lL X ops (ql ops (flX l)) pend L s=some rd∧(RKX X O ops D Q r→RKD X O ops D Q rd)
 |[],pend,L,s,r,_,h=>by cases h;exact⟨_,rfl,id⟩
 |(i,none)::rest,pend,L,s,r,hr,h=>by
  simp only[jR] at hr
  simp only[iB] at h
  cases ho:ops.toList[i]? with
  |none=>rw[ho] at h;cases h
  |some o=>
   rw[ho] at h
   have ih:∀ {v:AV} {la:Option (Nat×AB)} {L':Sl} {s':St},iB X ops rest (⟨i,o,v,la⟩::pend) L' s'=some r→∃rd,lL X ops (ql ops (flX rest)) (⟨i,o,v,la⟩::pend) L' s'=some rd∧(RKX X O ops D Q r→RKD X O ops D Q rd):=fun h=>uU (by simpa using hr) h
   have e:ql ops (flX ((i,none)::rest))= .take i o::ql ops (flX rest):=by simp only[flX,ql,Nw,ho]
   rw[e]
   simp only[lL]
   simp only at h
   cases hw:dG ops L o with
   |none=>rw[hw] at h;cases h
   |some b=>
    rw[hw] at h
    cases b with
    |false=>exact ih h
    |true=>
     simp only at h ⊢
     cases hk:dV L o.op with
     |false=>rw[hk] at h;cases h
     |true=>
      rw[hk] at h
      simp only at h ⊢
      generalize opG X o.op (gL L) s=q at h ⊢
      match q,h with
      |some (.old v),h=>exact ih h
      |some (.pure v),h=>exact ih h
      |some (.val v s'),h=>
       simp only[qv] at h
       simp only[Cc]
       split at h
       ·split at h
        ·exact ih h
        ·cases h
       ·cases h
      |some (.call _ _),h=>cases h
      |some (.round _ _),h=>cases h
      |some (.pan _),h=>cases h
      |some (.dfr _),h=>cases h
      |none,h=>cases h
 |(i,some rem)::rest,pend,L,s,r,hr,h=>by
  simp only[jR] at hr
  simp only[iB] at h
  cases ho:ops.toList[i]? with
  |none=>rw[ho] at h;cases h
  |some o=>
   rw[ho] at h hr
   simp only[Bool.and_eq_true,beq_iff_eq] at hr
   have e:ql ops (flX ((i,some rem)::rest))= .act i o::ql ops (flX rest):=by simp only[flX,ql,Nw,ho]
   rw[e]
   simp only[lL]
   simp only at h
   have cont:∀ {v:AV} {s':St},jl X ops rem pend (bO o.dst v L) s' (iB X ops rest)=some r→∃p,pL X ops o pend (bO o.dst v L) s'=some p∧∃rd,lL X ops (ql ops (flX rest)) p (bO o.dst v L) s'=some rd∧(RKX X O ops D Q r→RKD X O ops D Q rd):=by
    intro v s' h
    unfold jl at h
    split at h
    ·rename_i p hp
     obtain⟨h1,h2⟩:=DR hr.1 hp
     exact⟨p,h1,uU (by rw[h2];exact hr.2) h⟩
    ·cases h
   cases hw:dG ops L o with
   |none=>rw[hw] at h;cases h
   |some b=>
    rw[hw] at h
    cases b with
    |false=>
     simp only at h ⊢
     cases hp:aP X L o with
     |false=>rw[hp] at h;cases h
     |true=>
      rw[hp] at h
      obtain⟨p,h1,h2⟩:=cont h
      simp only[h1];exact h2
    |true=>
     simp only at h ⊢
     cases hk:dV L o.op with
     |false=>rw[hk] at h;cases h
     |true=>
      rw[hk] at h
      simp only at h ⊢
      generalize opG X o.op (gL L) s=q at h ⊢
      have call:∀ {tg:Tgt} {args:List AV},RKX X O ops D Q (.call o.dst rem tg args pend rest L s)→RKD X O ops D Q (.call o tg args pend (ql ops (flX rest)) L s):=fun hq=>Ca.mono hq fun r hr'=>by
       cases r with
       |ret v s'=>
        obtain⟨p,h1,h2⟩:=hr'
        obtain⟨h3,h4⟩:=DR hr.1 h1
        exact⟨p,h3,h2 (by rw[h4];exact hr.2)⟩
       |pan v s'=>exact hr'
      match q,h with
      |some (.old v),h=>obtain⟨p,h1,h2⟩:=cont h;simp only[wX,h1];exact h2
      |some (.pure v),h=>obtain⟨p,h1,h2⟩:=cont h;simp only[wX,h1];exact h2
      |some (.val v s'),h=>obtain⟨p,h1,h2⟩:=cont h;simp only[wX,h1];exact h2
      |some (.call f args),h=>cases h;exact⟨_,rfl,call⟩
      |some (.round b args),h=>cases h;exact⟨_,rfl,call⟩
      |some (.pan v),h=>cases h;exact⟨_,rfl,id⟩
      |some (.dfr _),h=>cases h
      |none,h=>cases h
theorem MG {ops:Array Oper}{D:List DE}{Q:cf}{l:Ix}{pend:List bn}{L:Sl}{s:St}{r:RX}(h:iB X ops l pend L s=some r)(hr:RKX X O ops D Q r):DX X O ops l pend L D s Q:=fun hk=>by
 obtain⟨rd,h1,h2⟩:=uU (O:=O) (D:=D) (Q:=Q) hk h
 exact zz h1 (h2 hr)
theorem Jz {id:Nat}{ops:Array Oper}(ix:Ix){L:Sl}{D:List DE}{s:St}{Q:cf}{r:RX}(hs:nO (ef ops) (ops.size+1) 0=ql ops (flX ix))(hk:jR ops ix []=true)(h:iB X ops ix [] L s=some r)(hr:RKX X O ops D Q r):WL X O (.region id ops true) L D s Q:=by
 obtain⟨rd,h1,h2⟩:=uU (O:=O) (D:=D) (Q:=Q) (pend:=[]) hk h
 exact Li (flX ix) hs h1 (h2 hr)
theorem IF {a:Nat}:dx a []=false:=rfl
theorem EV {a b:Nat}{l:List Nat}:dx a (b::l)=if a=b then true else dx a l:=by
 simp only[dx]
 by_cases h:a=b
 ·rw[if_pos h,Nat.beq_eq.mpr h]
 ·rw[if_neg h]
  cases hb:Nat.beq a b with
  |true=>exact absurd (Nat.beq_eq.mp hb) h
  |false=>rfl
theorem sX {b:Bool}:(AV.bool b).same (.bool b)=true:=by simp[AV.same]
theorem pb {k:IntKind}{n:Int}:(AV.int k n).same (.int k n)=true:=by simp[AV.same]
theorem sa {v:Str}:(AV.str v).same (.str v)=true:=by simp[AV.same,Str.beq]
theorem BE {a:Option (Nat×Nat)}:(AV.ptr a).same (.ptr a)=true:=by simp[AV.same]
theorem o7 {a:Option (Nat×Nat×Nat)}{n c:Nat}{x:Bool}:(AV.slc a n c x).same (.slc a n c x)=true:=by simp[AV.same]
theorem Bf {a:Option Nat}:(AV.map a).same (.map a)=true:=by simp[AV.same]
theorem wx {l m:List AV}:(AV.agg l).same (.agg m)=jf l m:=by simp[AV.same]
theorem Bd {l m:List AV}:(AV.tup l).same (.tup m)=jf l m:=by simp[AV.same]
theorem yv {f:Fn}{a b c d:List AV}:(AV.func f a b).same (.func f c d)=(jf a c&&jf b d):=by simp[AV.same]
theorem yN:AV.nilFunc.same .nilFunc=true:=by simp[AV.same]
theorem yy:AV.nilIface.same .nilIface=true:=by simp[AV.same]
theorem AH {t:TypeId}{v w:AV}:(AV.iface t v).same (.iface t w)=v.same w:=by simp[AV.same]
theorem pP:jf [] []=true:=by simp[jf]
theorem nR {a b:AV}{l m:List AV}:jf (a::l) (b::m)=(a.same b&&jf l m):=by simp[jf]
theorem all_nil {α:Type}{p:α→Bool}:([]:List α).all p=true:=rfl
theorem Eu {ops:Array Oper}{D:List DE}{Q:cf}{L:Sl}{s:St}(h:Fin Q .norm L D s):RKX X O ops D Q (.fin L s):=h
theorem GJ {ops:Array Oper}{D:List DE}{Q:cf}{dst:Option Nat}{rem:List Nat}{t:Tgt}{args:List AV}{pend:List bn}{rest:Ix}{L:Sl}{s:St}{K:CR→Prop}(h:Ca X O t args s K)(hr:∀v s',K (.ret v s')→∃p,qx X ops rem pend (bO dst v L) s'=some p∧DX X O ops rest p (bO dst v L) D s' Q)(hp:∀v s',K (.pan v s')→Fin Q (.pan v) [] D s'):RKX X O ops D Q (.call dst rem t args pend rest L s):=
 h.mono fun r hk=>by
  cases r with
  |ret v s'=>exact hr v s' hk
  |pan v s'=>exact hp v s' hk
theorem dR {ops:Array Oper}{D:List DE}{Q:cf}{L:Sl}{s:St}(h:Fin Q .norm L D s):RK X O ops D Q (.fin L s):=h
theorem Nn {ops:Array Oper}{D:List DE}{Q:cf}{L:Sl}{s:St}{v:AV}(h:Fin Q (.pan v) L D s):RK X O ops D Q (.pan v L s):=h
theorem aj {ops:Array Oper}{D:List DE}{Q:cf}{dst:Option Nat}{t:Tgt}{args:List AV}{rest:List Oper}{L:Sl}{s:St}{K:CR→Prop}(h:Ca X O t args s K)(hr:∀v s',K (.ret v s')→OL X O ops rest (bO dst v L) D s' Q)(hp:∀v s',K (.pan v s')→Fin Q (.pan v) L D s'):RK X O ops D Q (.call dst t args rest L s):=
 h.mono fun r hk=>by
  cases r with
  |ret v s'=>exact hr v s' hk
  |pan v s'=>exact hp v s' hk
end
end Go.Am
end
section
namespace Go.Am
def rA (ops:Array Oper)(o:Oper):List Nat:=(o.op.operands.toList.filterMap fun x=>match x with| .tmp t=>some t| _=>none)++match o.guard with
 |some (j,_)=>match ops.toList[j]? with
  |some g=>match g.dst with
   |some d=>[d]
   |none=>[]
  |none=>[]
 |none=>[]
theorem Ni {L:Sl}{d:Nat}{v:AV}{x:Operand}(h:∀t,x= .tmp t→t≠d):gL ((d,v)::L) x=gL L x∧knO ((d,v)::L) x=knO L x:=by
 cases x with
 |tmp t=>
  have hb:Nat.beq d t=false:=by
   cases hq:Nat.beq d t with
   |false=>rfl
   |true=>exact absurd (Nat.beq_eq.mp hq).symm (h t rfl)
  simp only[gL,knO,lk,hb,and_self]
 | _=>exact⟨rfl,rfl⟩
theorem ud {L M:Sl}:∀ {l:List Operand},(∀x∈l,knO M x=knO L x)→oV M l=oV L l
 |[],_=>rfl
 |x::l,h=>by simp only[oV,h x (by simp)];rw[ud fun y hy=>h y (by simp[hy])]
theorem B1 {X:Ctx}{ops:Array Oper}{L:Sl}{s:St}{p:bn}{d:Nat}{v:AV}(hd:dx d (rA ops p.o)=false)(h:aC X ops L s p=true):aC X ops ((d,v)::L) s p=true:=by
 have hn:∀t,t∈rA ops p.o→t≠d:=fun t ht e=>by subst e;rw[wW.mpr ht] at hd;cases hd
 have hx:∀x∈p.o.op.operands.toList,gL ((d,v)::L) x=gL L x∧knO ((d,v)::L) x=knO L x:=fun x hx=>Ni fun t e=>hn t (by
  unfold rA
  refine List.mem_append_left _ (List.mem_filterMap.mpr ⟨x,hx,by rw[e]⟩))
 have hk:dV ((d,v)::L) p.o.op=dV L p.o.op:=ud fun x h=>(hx x h).2
 have ho:opG X p.o.op (gL ((d,v)::L)) s=opG X p.o.op (gL L) s:=by
  rw[←pW,←pW L,←CU p.o ⟨trL ((d,v)::L),[]⟩ s,←CU p.o ⟨trL L,[]⟩ s]
  refine mj fun x hm=>?_
  rw[pW,pW]
  exact(hx x (Array.mem_toList_iff.mpr hm)).1
 have hw:dG ops ((d,v)::L) p.o=dG ops L p.o:=by
  unfold dG
  cases hg:p.o.guard with
  |none=>rfl
  |some q=>
   obtain⟨j,want⟩:=q
   simp only
   cases hj:ops.toList[j]? with
   |none=>rfl
   |some g=>
    simp only
    cases hgd:g.dst with
    |none=>rfl
    |some e=>
     simp only
     have he:e≠d:=hn e (by unfold rA;simp only[hg,hj,hgd];simp)
     have hb:Nat.beq d e=false:=by
      cases hq:Nat.beq d e with
      |false=>rfl
      |true=>exact absurd (Nat.beq_eq.mp hq).symm he
     simp only[lk,hb]
 unfold aC at h ⊢
 cases hl:p.laid with
 |some q=>rw[hl] at h;exact h
 |none=>
  rw[hl] at h
  simp only at h ⊢
  rw[hw,hk,ho];exact h
abbrev Iy:=List (Nat×Option (List Bool))
def mask {α:Type}:List Bool→List α→List α
 |true::m,p::l=>p::mask m l
 |false::m,_::l=>mask m l
 | _,_=>[]
theorem w5 {α β:Type}(f:α→β):∀ (m:List Bool) (l:List α),mask m (l.map f)=(mask m l).map f
 |[],l=>by cases l<;>rfl
 |true::m,[]=>rfl
 |false::m,[]=>rfl
 |true::m,p::l=>by simp only[List.map_cons,mask,w5 f m l]
 |false::m,p::l=>by simp only[List.map_cons,mask,w5 f m l]
theorem rB {α:Type}:∀ {m:List Bool} {l:List α} {p:α},p∈mask m l→p∈l
 |[],l,p,h=>by cases l<;>simp[mask] at h
 |true::m,[],p,h=>by simp[mask] at h
 |false::m,[],p,h=>by simp[mask] at h
 |true::m,q::l,p,h=>by
  simp only[mask,List.mem_cons] at h
  rcases h with rfl|h
  ·simp
  ·exact List.mem_cons_of_mem _ (rB h)
 |false::m,q::l,p,h=>List.mem_cons_of_mem _ (rB (by simpa[mask] using h))
theorem jX {α:Type}(f:α→Bool):∀ (l:List α),mask (l.map f) l=l.filter f
 |[]=>rfl
 |a::l=>by
  simp only[List.map_cons,List.filter_cons]
  cases h:f a with
  |true=>simp only[mask,jX f l,if_true]
  |false=>simp only[mask,jX f l,Bool.false_eq_true,if_false]
def kx:Iy→List Nat→Ix
 |[],_=>[]
 |(i,none)::l,pend=>(i,none)::kx l (i::pend)
 |(i,some m)::l,pend=>(i,some (mask m pend))::kx l (mask m pend)
def qd (ops:Array Oper)(o:Oper)(pend:List Nat):Bool:=match o.dst with
 |none=>true
 |some d=>pend.all fun j=>match ops.toList[j]? with
  |some p=> !dx d (rA ops p)
  |none=>false
def oc (ops:Array Oper):Iy→List Nat→Bool
 |[],_=>true
 |(i,none)::l,pend=>match ops.toList[i]? with
  |some o=>qd ops o (i::pend)&&oc ops l (i::pend)
  |none=>false
 |(i,some m)::l,pend=>match ops.toList[i]? with
  |some o=>qd ops o (mask m pend)&& ((m==pend.map fun j=> !bS o j)&&oc ops l (mask m pend))
  |none=>false
noncomputable def nG (i:Nat)(o:Oper)(ok:Bool)(pend:List bn)(L:Sl)(s:St)(k:Bool→List bn→Sl→St→Option RX):Option OR→Option RX
 |some (.old v)=>match v.same v with
  |true=>k ok (⟨i,o,v,none⟩::pend) (bO o.dst v L) s
  |false=>none
 |some (.pure v)=>match v.same v with
  |true=>k ok (⟨i,o,v,none⟩::pend) (bO o.dst v L) s
  |false=>none
 |some (.val v s')=>match s.h.get s.nx with
  |none=>match s'.h.get s.nx with
   |some b=>k false (⟨i,o,v,some (s.nx,b)⟩::pend) (bO o.dst v L) s'
   |none=>none
  | _=>none
 | _=>none
noncomputable def mR (X:Ctx)(ops:Array Oper)(m:List Bool)(ok:Bool)(pend:List bn)(L:Sl)(s:St)(k:Bool→List bn→Sl→St→Option RX):Option RX:=match ok with
 |true=>k true (mask m pend) L s
 |false=>match(mask m pend).all (aC X ops L s) with
  |true=>k true (mask m pend) L s
  |false=>none
noncomputable def BJ (X:Ctx)(ops:Array Oper)(o:Oper)(m:List Bool)(ok:Bool)(pend:List bn)(rest:Iy)(L:Sl)(s:St)(k:Bool→List bn→Sl→St→Option RX):Option OR→Option RX
 |some (.old v)=>mR X ops m ok pend (bO o.dst v L) s k
 |some (.pure v)=>mR X ops m ok pend (bO o.dst v L) s k
 |some (.val v s')=>mR X ops m false pend (bO o.dst v L) s' k
 |some (.call f args)=>some (.call o.dst (mask m (pend.map (·.i))) (.fn f) args pend (kx rest (mask m (pend.map (·.i)))) L s)
 |some (.round b args)=>some (.call o.dst (mask m (pend.map (·.i))) (.rnd b) args pend (kx rest (mask m (pend.map (·.i)))) L s)
 |some (.pan v)=>some (.pan v s)
 | _=>none
noncomputable def lg (X:Ctx)(ops:Array Oper):Iy→Bool→List bn→Sl→St→Option RX
 |[],_,_,L,s=>some (.fin L s)
 |(i,none)::rest,ok,pend,L,s=>match ops.toList[i]? with
  |none=>none
  |some o=>match dG ops L o with
   |none=>none
   |some false=>lg X ops rest ok (⟨i,o, .tup [],none⟩::pend) (bO o.dst (.tup []) L) s
   |some true=>match dV L o.op with
    |false=>none
    |true=>nG i o ok pend L s (lg X ops rest) (opG X o.op (gL L) s)
 |(i,some m)::rest,ok,pend,L,s=>match ops.toList[i]? with
  |none=>none
  |some o=>match dG ops L o with
   |none=>none
   |some false=>match aP X L o with
    |true=>mR X ops m ok pend (bO o.dst (.tup []) L) s (lg X ops rest)
    |false=>none
   |some true=>match dV L o.op with
    |false=>none
    |true=>BJ X ops o m ok pend rest L s (lg X ops rest) (opG X o.op (gL L) s)
theorem wV {ops:Array Oper}:∀ {l:Iy} {pend:List Nat},oc ops l pend=true→jR ops (kx l pend) pend=true
 |[],_,_=>rfl
 |(i,none)::l,pend,h=>by
  simp only[oc] at h
  simp only[kx,jR]
  split at h
  ·rw[Bool.and_eq_true] at h;exact wV h.2
  ·cases h
 |(i,some m)::l,pend,h=>by
  simp only[oc] at h
  simp only[kx,jR]
  split at h
  ·rename_i o ho
   simp only[Bool.and_eq_true,beq_iff_eq] at h
   simp only[ho,Bool.and_eq_true,beq_iff_eq]
   exact⟨by rw[h.2.1];exact(jX _ _).symm,wV h.2.2⟩
  ·cases h
section
variable {X:Ctx}{O:bj}
def K2 (ops:Array Oper)(pend:List bn):Prop:=∀p∈pend,ops.toList[p.i]? =some p.o
theorem tV {ops:Array Oper}{o:Oper}{pend:List bn}{L:Sl}{s:St}{v:AV}(hp:K2 ops pend)(hf:qd ops o (pend.map (·.i))=true)(h:∀p∈pend,aC X ops L s p=true):∀p∈pend,aC X ops (bO o.dst v L) s p=true:=by
 intro p hm
 unfold qd at hf
 cases hd:o.dst with
 |none=>exact h p hm
 |some d=>
  rw[hd] at hf
  have:=List.all_eq_true.mp hf p.i (List.mem_map.mpr ⟨p,hm,rfl⟩)
  rw[hp p hm] at this
  exact B1 (by simpa using this) (h p hm)
theorem E5 {ops:Array Oper}{rem:List Nat}{pend q:List bn}{L:Sl}{s:St}(hq:q=pend.filter fun p=>dx p.i rem)(h:q.all (aC X ops L s)=true):qx X ops rem pend L s=some q:=by
 subst hq
 cases rem with
 |nil=>
  have:(pend.filter fun p=>dx p.i [])=[]:=List.filter_eq_nil_iff.mpr fun _ _=>by simp[dx]
  rw[this];rfl
 |cons j rem=>unfold qx;simp only;rw[h]
theorem Dv {ops:Array Oper}:∀ {l:Iy} {ok:Bool} {pend:List bn} {L:Sl} {s:St} {r:RX},oc ops l (pend.map (·.i))=true→K2 ops pend→(ok=true→∀p∈pend,aC X ops L s p=true)→lg X ops l ok pend L s=some r→
  iB X ops (kx l (pend.map (·.i))) pend L s=some r∧jR ops (kx l (pend.map (·.i))) (pend.map (·.i))=true
 |[],ok,pend,L,s,r,_,_,_,h=>⟨h,rfl⟩
 |(i,none)::rest,ok,pend,L,s,r,hs,hp,hok,h=>by
  simp only[oc] at hs
  simp only[lg] at h
  simp only[kx,iB,jR]
  cases ho:ops.toList[i]? with
  |none=>rw[ho] at h;cases h
  |some o=>
   rw[ho] at h hs
   simp only[Bool.and_eq_true] at hs h ⊢
   obtain⟨hf,hs⟩:=hs
   have hf':qd ops o (pend.map (·.i))=true:=by
    unfold qd at hf ⊢
    cases hd:o.dst with
    |none=>rfl
    |some d=>rw[hd] at hf;exact(by simpa using hf:_∧_).2 |> fun h=>by simpa using h
   have inv:∀ (v:AV) (la:Option (Nat×AB)),K2 ops (⟨i,o,v,la⟩::pend):=fun v la p hm=>by
    rcases List.mem_cons.mp hm with rfl|hm
    ·exact ho
    ·exact hp p hm
   have self:∀ {v:AV},aC X ops L s ⟨i,o,v,none⟩=true→ok=true→∀p∈(⟨i,o,v,none⟩::pend:List bn),aC X ops (bO o.dst v L) s p=true:=fun{v} hv hk=>
    tV (inv v none) (by simpa using hf) fun p hm=>by
     rcases List.mem_cons.mp hm with rfl|hm
     ·exact hv
     ·exact hok hk p hm
   have ih:∀ {ok':Bool} {v:AV} {la:Option (Nat×AB)} {L':Sl} {s':St},(ok'=true→∀p∈(⟨i,o,v,la⟩::pend:List bn),aC X ops L' s' p=true)→lg X ops rest ok' (⟨i,o,v,la⟩::pend) L' s'=some r→
     iB X ops (kx rest (i::pend.map (·.i))) (⟨i,o,v,la⟩::pend) L' s'=some r∧jR ops (kx rest (i::pend.map (·.i))) (i::pend.map (·.i))=true:=fun hk hr=>Dv (pend:=⟨i,o,_,_⟩::pend) (by simpa using hs) (inv _ _) hk hr
   cases hw:dG ops L o with
   |none=>rw[hw] at h;cases h
   |some b=>
    rw[hw] at h
    cases b with
    |false=>exact ih (self (by simp only[aC,hw])) h
    |true=>
     simp only at h ⊢
     cases hk:dV L o.op with
     |false=>rw[hk] at h;cases h
     |true=>
      rw[hk] at h
      simp only at h ⊢
      have st:∀ {v:AV},aB v (opG X o.op (gL L) s)=true→aC X ops L s ⟨i,o,v,none⟩=true:=fun hv=>by simp only[aC,hw,hk,hv]
      generalize opG X o.op (gL L) s=q at h st ⊢
      match q,h with
      |some (.old v),h=>
       simp only[nG] at h
       split at h
       ·rename_i hv;exact ih (self (st hv)) h
       ·cases h
      |some (.pure v),h=>
       simp only[nG] at h
       split at h
       ·rename_i hv;exact ih (self (st hv)) h
       ·cases h
      |some (.val v s'),h=>
       simp only[nG] at h
       split at h
       ·rename_i hf0
        split at h
        ·rename_i b0 hb0
         simp only[qv,hf0,hb0]
         exact ih (fun e=>by cases e) h
        ·cases h
       ·cases h
      |some (.call _ _),h=>cases h
      |some (.round _ _),h=>cases h
      |some (.pan _),h=>cases h
      |some (.dfr _),h=>cases h
      |none,h=>cases h
 |(i,some m)::rest,ok,pend,L,s,r,hs,hp,hok,h=>by
  simp only[oc] at hs
  simp only[lg] at h
  simp only[kx,iB,jR]
  cases ho:ops.toList[i]? with
  |none=>rw[ho] at h;cases h
  |some o=>
   rw[ho] at h hs
   simp only[Bool.and_eq_true,beq_iff_eq] at hs h ⊢
   obtain⟨hf,hr,hs⟩:=hs
   have hpm:K2 ops (mask m pend):=fun p hm=>hp p (rB hm)
   have hmm:mask m (pend.map (·.i))=(mask m pend).map (·.i):=w5 _ _ _
   have hfil:mask m pend=pend.filter fun p=> !bS o p.i:=by
    rw[hr,List.map_map];exact jX _ _
   have hrem:(pend.map (·.i)).filter (fun j=> !bS o j)=mask m (pend.map (·.i)):=by rw[hr];exact(jX _ _).symm
   have hrem':(mask m pend)=pend.filter fun p=>dx p.i (mask m (pend.map (·.i))):=by rw[hfil];exact vy hrem
   rw[hmm] at hf hs
   have cont:∀ {ok':Bool} {v:AV} {s':St},(ok'=true→s'=s∧ok=true)→mR X ops m ok' pend (bO o.dst v L) s' (lg X ops rest)=some r→
     jl X ops (mask m (pend.map (·.i))) pend (bO o.dst v L) s' (iB X ops (kx rest (mask m (pend.map (·.i)))))=some r∧jR ops (kx rest (mask m (pend.map (·.i)))) (mask m (pend.map (·.i)))=true:=by
    intro ok' v s' hk hc
    have key:(∀p∈mask m pend,aC X ops (bO o.dst v L) s' p=true)→lg X ops rest true (mask m pend) (bO o.dst v L) s'=some r→jl X ops (mask m (pend.map (·.i))) pend (bO o.dst v L) s' (iB X ops (kx rest (mask m (pend.map (·.i)))))=some r∧jR ops (kx rest (mask m (pend.map (·.i)))) (mask m (pend.map (·.i)))=true:=by
     intro hall hrun
     have hl:qx X ops (mask m (pend.map (·.i))) pend (bO o.dst v L) s'=some (mask m pend):=E5 hrem' (List.all_eq_true.mpr hall)
     unfold jl
     rw[hl,hmm]
     exact Dv hs hpm (fun _=>hall) hrun
    unfold mR at hc
    cases ok' with
    |true=>
     obtain⟨rfl,hk'⟩:=hk rfl
     exact key (tV hpm hf fun p hm=>hok hk' p (rB hm)) hc
    |false=>
     simp only at hc
     split at hc
     ·rename_i ha;exact key (List.all_eq_true.mp ha) hc
     ·cases hc
   cases hw:dG ops L o with
   |none=>rw[hw] at h;cases h
   |some b=>
    rw[hw] at h
    cases b with
    |false=>
     simp only at h ⊢
     cases hpa:aP X L o with
     |false=>rw[hpa] at h;cases h
     |true=>
      rw[hpa] at h
      obtain⟨h1,h2⟩:=cont (fun e=>⟨rfl,e⟩) h
      exact⟨h1,hrem,h2⟩
    |true=>
     simp only at h ⊢
     cases hk:dV L o.op with
     |false=>rw[hk] at h;cases h
     |true=>
      rw[hk] at h
      simp only at h ⊢
      have hre:jR ops (kx rest (mask m (pend.map (·.i)))) (mask m (pend.map (·.i)))=true:=by rw[hmm];exact wV hs
      generalize opG X o.op (gL L) s=q at h ⊢
      match q,h with
      |some (.old v),h=>obtain⟨h1,h2⟩:=cont (ok':=ok) (v:=v) (s':=s) (fun e=>⟨rfl,e⟩) h;exact⟨h1,hrem,h2⟩
      |some (.pure v),h=>obtain⟨h1,h2⟩:=cont (ok':=ok) (v:=v) (s':=s) (fun e=>⟨rfl,e⟩) h;exact⟨h1,hrem,h2⟩
      |some (.val v s'),h=>obtain⟨h1,h2⟩:=cont (ok':=false) (v:=v) (s':=s') (fun e=>(by cases e)) h;exact⟨h1,hrem,h2⟩
      |some (.call f args),h=>exact⟨h,hrem,hre⟩
      |some (.round b args),h=>exact⟨h,hrem,hre⟩
      |some (.pan v),h=>exact⟨h,hrem,hre⟩
      |some (.dfr _),h=>cases h
      |none,h=>cases h
theorem aU {id:Nat}{ops:Array Oper}(iy:Iy){L:Sl}{D:List DE}{s:St}{Q:cf}{r:RX}(hs:nO (ef ops) (ops.size+1) 0=ql ops (flX (kx iy [])))(hk:oc ops iy []=true)(h:lg X ops iy true [] L s=some r)(hr:RKX X O ops D Q r):WL X O (.region id ops true) L D s Q:=by
 obtain⟨h1,h2⟩:=Dv (X:=X) (pend:=[]) hk (fun _ h=>by simp at h) (fun _ _ h=>by simp at h) h
 exact Jz _ hs h2 h1 hr
end
end Go.Am
end
