/-
  A part of the texts.
-/
import Derived.Test.YtofohkdkpbigiaaQak
section
namespace Go.Am
section
variable {X:Ctx}{O:bj}
def CW (X:Ctx)(O:bj)(f:FuncId)(args:List AV)(s:St)(Q:CR→Prop):Prop:=∃n r,dE X (ev X O n) f args s=some r∧Q r
theorem CW.mono {f:FuncId}{args:List AV}{s:St}{Q R:CR→Prop}(h:CW X O f args s Q)(hQ:∀r,Q r→R r):CW X O f args s R:=let⟨n,r,h1,h2⟩:=h;⟨n,r,h1,hQ r h2⟩
noncomputable def xF:List DE→St→Option St
 |[],s=>some s
 | .mark b::ds,s=>match tv b s (s.h.get b) with
  |some s=>xF ds s
  |none=>none
 | .fn _::_,_=>none
def LQ (X:Ctx)(fn:Func)(Q:CR→Prop):cf:=fun x fr s=>match x with
 | .norm=>∃s',xF fr.d s=some s'∧∃l,ux X fr s' fn.results.toList=some l∧Q (.ret (eV l) s')
 | .ret=>∃s',xF fr.d s=some s'∧∃l,ux X fr s' fn.results.toList=some l∧Q (.ret (eV l) s')
 | .pan v=>∃s',xF fr.d s=some s'∧Q (.pan v s')
 | .brk _=>False
theorem ow {e:Ev}{fn:Func}{fr:Fr}{m:DM}:∀ {ds:List DE} {s s':St},xF ds s=some s'→leave X e fn fr ds m s=leave X e fn fr [] m s'
 |[],s,s',h=>by cases h;rfl
 | .mark b::ds,s,s',h=>by
  simp only[xF] at h
  simp only[leave]
  cases hu:tv b s (s.h.get b) with
  |none=>rw[hu] at h;cases h
  |some s1=>rw[hu] at h;exact ow h
 | .fn _::_,_,_,h=>by cases h
theorem Ic {f:FuncId}{fn:Func}{c:Code}{args:List AV}{s:St}{Q:CR→Prop}(hf:X.fns.get f=some fn)(hc:fn.body=some c)(h:WL X O c (aD args 0) [] s (LQ X fn Q)):CW X O f args s Q:=by
 obtain⟨n,x,fr,s',h1,h2⟩:=h _ (oI args)
 have e:∀r,rD X (ev X O n) fn (some (x,fr,s'))=some r→dE X (ev X O n) f args s=some r:=fun r hr=>by
  unfold dE
  rw[hf]
  simp only[hc]
  rw[h1];exact hr
 cases x with
 |norm=>obtain⟨s2,h3,l,h4,h5⟩:=h2;exact⟨n,_,e _ (by show leave X _ fn fr fr.d .ret s'=_;rw[ow h3];exact nh h4),h5⟩
 |ret=>obtain⟨s2,h3,l,h4,h5⟩:=h2;exact⟨n,_,e _ (by show leave X _ fn fr fr.d .ret s'=_;rw[ow h3];exact nh h4),h5⟩
 |pan v=>obtain⟨s2,h3,h4⟩:=h2;exact⟨n,_,e (.pan v s2) (by show leave X _ fn fr fr.d (.pan v) s'=_;rw[ow h3];rfl),h4⟩
 |brk i=>exact h2.elim
theorem OM {f:FuncId}{args:List AV}{s:St}{Q:CR→Prop}(ho:O f=none)(h:CW X O f args s Q):Ca X O (.fn f) args s Q:=by
 obtain⟨n,r,h1,h2⟩:=h
 refine⟨n,r,?_,h2⟩
 show fN X O (ev X O n) f args s=_
 unfold fN
 rw[ho]
 exact h1
theorem LH {fn:Func}{Q:CR→Prop}:∀x fr s,tz X fn Q x fr s→LQ X fn Q x fr s:=by
 intro x fr s h
 cases x with
 |norm=>obtain⟨h1,l,h2,h3⟩:=h;exact⟨s,by rw[h1];rfl,l,h2,h3⟩
 |ret=>obtain⟨h1,l,h2,h3⟩:=h;exact⟨s,by rw[h1];rfl,l,h2,h3⟩
 |pan v=>obtain⟨h1,h2⟩:=h;exact⟨s,by rw[h1];rfl,h2⟩
 |brk i=>exact h
theorem OW {f:FuncId}{fn:Func}{c:Code}{args:List AV}{s:St}{Q:CR→Prop}(hf:X.fns.get f=some fn)(hc:fn.body=some c)(h:WL X O c (aD args 0) [] s (tz X fn Q)):CW X O f args s Q:=
 Ic hf hc (h.mono LH)
theorem Jc {fn:Func}{L:Sl}{D:List DE}{s s':St}{Q:CR→Prop}{l:List AV}(hu:xF D s=some s')(h:iN X L s' fn.results.toList=some l)(hQ:Q (.ret (eV l) s')):Fin (LQ X fn Q) .ret L D s:=fun _ ht=>⟨s',hu,l,gv ht h,hQ⟩
def N0 (X:Ctx)(O:bj)(t:Tr AV)(b0:Nat)(D:List DE)(Q:cf):CR→Prop
 | .ret _ s'=>(∃t' ps QQ bd,s'.h.get (b0+1)=some (.loop t' ps QQ bd .ready)∧Q .norm ⟨t, .mark b0::D⟩ {s' with h:=s'.h.del (b0+1)})∨
  ∃t' ps QQ bd c,s'.h.get (b0+1)=some (.loop t' ps QQ bd (.done c))∧wE c=true∧W X O c ⟨t, .mark b0::D⟩ {s' with h:=s'.h.del (b0+1)} Q
 | .pan v s'=>Q (.pan v) ⟨t, .mark b0::D⟩ s'
theorem G4 {g:Operand}{ps:Array Nat}{QQ bd:Code}{L:Sl}{D:List DE}{s:St}{Q:cf}{f:FuncId}{first cap:List AV}(hk:knO L g=true)(hg:gL L g= .func (.func f) first cap)
  (h:∀t,cT t L→CW X O f (first++(.yld (s.nx+1)::cap)) {s with h:=(s.h.put s.nx .dfr).put (s.nx+1) (.loop t ps.toList QQ bd .ready),nx:=s.nx+1+1} (N0 X O t s.nx D Q)):WL X O (.rangeFunc g ps QQ bd) L D s Q:=by
 intro t ht
 obtain⟨n,r,h1,h2⟩:=h t ht
 have e0:(⟨t,D⟩:Fr).opd g= .func (.func f) first cap:=(pX (fr:=⟨t,D⟩) ht hk).trans hg
 have e1:∀m,px X O (ev X O m) (.rangeFunc g ps QQ bd) ⟨t,D⟩ s=ta (ev X O m) ⟨t,D⟩ s.nx (s.nx+1) (dE X (ev X O m) f (first++(.yld (s.nx+1)::cap)) {s with h:=(s.h.put s.nx .dfr).put (s.nx+1) (.loop t ps.toList QQ bd .ready),nx:=s.nx+1+1}):=fun m=>by
  show ov X (ev X O m) ps.toList QQ bd ⟨t,D⟩ s ((⟨t,D⟩:Fr).opd g)=_
  rw[e0]
  show rq X (ev X O m) f first cap ⟨t,D⟩ s.nx (s.nx+1) _=_
  unfold rq
  simp only[mG,oW]
  rfl
 cases r with
 |pan v s'=>exact m6 ⟨n, .pan v,⟨t, .mark s.nx::D⟩,s',by rw[e1,h1];rfl,h2⟩
 |ret v s'=>
  rcases h2 with⟨t',ps',QR,bd',g1,g2⟩|⟨t',ps',QR,bd',c,g1,g2,m,x,fr,s2,g3,g4⟩
  ·refine m6 ⟨n, .norm,⟨t, .mark s.nx::D⟩,_,?_,g2⟩
   rw[e1,h1]
   show pZ _ _ _ _ s' (s'.h.get (s.nx+1))=_
   rw[g1];rfl
  ·refine m6 ⟨max n m,x,fr,s2,?_,g4⟩
   rw[e1,pG (kJ (Nat.le_max_left n m)) _ _ _ _ h1]
   show pZ _ _ _ _ s' (s'.h.get (s.nx+1))=_
   rw[g1]
   simp only[pZ,g2]
   exact kJ (Nat.le_max_right n m) _ _ _ _ g3
def Fw:List Nat→List AV→Sl→Sl
 |p::ps,v::vs,L=>Fw ps vs ((p,v)::L)
 | _,_,L=>L
theorem rE:∀ {ps:List Nat} {vs:List AV} {t:Tr AV} {L:Sl},ps.length=vs.length→cT t L→∃t',jE ps vs t=some t'∧cT t' (Fw ps vs L)
 |[],[],t,L,_,h=>⟨t,rfl,h⟩
 |[],_::_,_,_,h,_=>by simp at h
 | _::_,[],_,_,h,_=>by simp at h
 |p::ps,v::vs,t,L,hl,h=>by
  obtain⟨t',h1,h2⟩:=rE (ps:=ps) (vs:=vs) (by simpa using hl) (h.put p v)
  exact⟨t',by simp only[jE,kH];exact h1,h2⟩
def KG (b:Nat)(t:Tr AV)(ps:List Nat)(QQ bd:Code)(Q:CR→Prop):cf:=fun x fr s=>s.h.get b=some (.loop t ps QQ bd .busy)∧match x with
 | .norm=>Q (.ret (.bool true) {s with h:=s.h.put b (.loop t ps QQ bd .ready)})
 | .ret=>Q (.ret (.bool false) {s with h:=s.h.put b (.loop t ps QQ bd (.done .ret))})
 | .brk i=>Q (.ret (.bool false) {s with h:=s.h.put b (.loop t ps QQ bd (.done (.exit i)))})
 | .pan v=>fr.d=[]∧Q (.pan v s)
def AsK (X:Ctx)(O:bj)(b:Nat)(t:Tr AV)(ps:List Nat)(QQ bd:Code)(Q:CR→Prop):cf:=fun x fr s=>x= .norm∧s.h.get b=some (.loop t ps QQ bd .ready)∧W X O bd fr {s with h:=s.h.put b (.loop t ps QQ bd .busy)} (KG b t ps QQ bd Q)
theorem NQ {b:Nat}{t:Tr AV}{ps:List Nat}{QQ bd:Code}{Q:CR→Prop}{L:Sl}{s:St}(hb:s.h.get b=some (.loop t ps QQ bd .ready))(h:WL X O bd L [] {s with h:=s.h.put b (.loop t ps QQ bd .busy)} (KG b t ps QQ bd Q)):Fin (AsK X O b t ps QQ bd Q) .norm L [] s:=fun t' ht=>⟨rfl,hb,h t' ht⟩
theorem Oh {b:Nat}{args:List AV}{s:St}{t:Tr AV}{ps:List Nat}{QQ bd:Code}{Q:CR→Prop}{L:Sl}(hb:s.h.get b=some (.loop t ps QQ bd .ready))(hL:cT t L)(hz:ps.length=args.length)(h:WL X O QQ (Fw ps args L) [] s (AsK X O b t ps QQ bd Q)):Ca X O (.rnd b) args s Q:=by
 obtain⟨t',h1,h2⟩:=rE hz hL
 obtain⟨n,x,fr,s1,h3,rfl,h5,m,x2,fr2,s2,h6,h7,h8⟩:=h t' h2
 have e:∀r,vw b x2 fr2.d s2 (some (.loop t ps QQ bd .busy))=some r→cF X O (ev X O (max n m)) (.rnd b) args s=some r:=fun r hr=>by
  show mQ (ev X O (max n m)) b args s=_
  unfold mQ Er
  rw[hb]
  show yl _ b QQ bd s (jE ps args t)=_
  rw[h1]
  show nB _ b bd (ev X O (max n m) QQ ⟨t',[]⟩ s)=_
  rw[kJ (Nat.le_max_left n m) _ _ _ _ h3]
  show pS _ b bd fr s1 (s1.h.get b)=_
  rw[h5]
  show rP b (ev X O (max n m) bd fr {s1 with h:=s1.h.put b (.loop t ps QQ bd .busy)})=_
  rw[kJ (Nat.le_max_right n m) _ _ _ _ h6]
  show vw b x2 fr2.d s2 (s2.h.get b)=_
  rw[h7];exact hr
 cases x2 with
 |norm=>exact⟨max n m,_,e _ rfl,h8⟩
 |ret=>exact⟨max n m,_,e _ rfl,h8⟩
 |brk i=>exact⟨max n m,_,e _ rfl,h8⟩
 |pan v=>exact⟨max n m,_,e _ (by simp only[vw,h8.1];rfl),h8.2⟩
theorem F0 {tt t':Tr AV}{b0:Nat}{D:List DE}{Q:cf}{L:Sl}{v:AV}{s':St}{ps:List Nat}{QQ bd:Code}(ht:cT tt L)(hl:s'.h.get (b0+1)=some (.loop t' ps QQ bd .ready))(h:Fin Q .norm L (.mark b0::D) {s' with h:=s'.h.del (b0+1)}):N0 X O tt b0 D Q (.ret v s'):= .inl ⟨_,_,_,_,hl,h tt ht⟩
theorem Ga {tt t':Tr AV}{b0:Nat}{D:List DE}{Q:cf}{L:Sl}{v:AV}{s':St}{ps:List Nat}{QQ bd c:Code}(ht:cT tt L)(hl:s'.h.get (b0+1)=some (.loop t' ps QQ bd (.done c)))(hj:wE c=true)(h:WL X O c L (.mark b0::D) {s' with h:=s'.h.del (b0+1)} Q):N0 X O tt b0 D Q (.ret v s'):= .inr ⟨_,_,_,_,_,hl,hj,h tt ht⟩
theorem zh {b:Nat}{t:Tr AV}{ps:List Nat}{QQ bd:Code}{Q:CR→Prop}{L:Sl}{D:List DE}{s:St}(hb:s.h.get b=some (.loop t ps QQ bd .busy))(h:Q (.ret (.bool true) {s with h:=s.h.put b (.loop t ps QQ bd .ready)})):Fin (KG b t ps QQ bd Q) .norm L D s:=fun _ _=>⟨hb,h⟩
theorem Bb {b:Nat}{t:Tr AV}{ps:List Nat}{QQ bd:Code}{Q:CR→Prop}{L:Sl}{D:List DE}{s:St}(hb:s.h.get b=some (.loop t ps QQ bd .busy))(h:Q (.ret (.bool false) {s with h:=s.h.put b (.loop t ps QQ bd (.done .ret))})):Fin (KG b t ps QQ bd Q) .ret L D s:=fun _ _=>⟨hb,h⟩
def Cell (s:St)(b:Nat)(v:AV):Prop:=∃c,s.h.get b=some (.cells c 1)∧c.get 0=some v
theorem Cell.put {s:St}{b b':Nat}{v:AV}{x:AB}(h:Cell s b v)(hn:b≠b'):Cell {s with h:=s.h.put b' x} b v:=let⟨c,h1,h2⟩:=h;⟨c,(aT hn).trans h1,h2⟩
theorem Cell.del {s:St}{b b':Nat}{v:AV}(h:Cell s b v)(hn:b≠b'):Cell {s with h:=s.h.del b'} b v:=let⟨c,h1,h2⟩:=h;⟨c,(jP hn).trans h1,h2⟩
theorem Cell.new {s:St}{b:Nat}{v:AV}{x:AB}(h:Cell s b v)(hn:b≠s.nx):Cell {s with h:=s.h.put s.nx x,nx:=s.nx+1} b v:=let⟨c,h1,h2⟩:=h;⟨c,(aT hn).trans h1,h2⟩
theorem Cell.load {s:St}{b:Nat}{v:AV}{t:TypeId}{d:TypeDesc}(h:Cell s b v)(hu:X.und t=some d)(hd:m9 d=false)(hn:X.size t=some 1):aO X t (.ptr (some (b,0))) s=some (.old v):=let⟨_,h1,h2⟩:=h;ah hu hd hn h1 h2
theorem Cell.store {s:St}{b:Nat}{v w:AV}{t:TypeId}(h:Cell s b v)(hn:X.size t=some 1)(hw:w.cells=[w])(ho:aX [w]=true):
  ∃x,cK X t (.ptr (some (b,0))) w s=some (.val (.tup []) {s with h:=s.h.put b x})∧Cell {s with h:=s.h.put b x} b w:=by
 obtain⟨c,h1,h2⟩:=h
 have hs:stL [w] 0 c=some (c.put 0 w):=by simp only[stL,h2,tK,kH]
 exact⟨.cells (c.put 0 w) 1,eY hn h1 (by rw[hw];rfl) (by rw[hw];exact ho) (by rw[hw];exact hs),_,bm,by rw[Tr.cV,if_pos rfl]⟩
theorem Mod.del {B:Nat→Prop}{s t:St}(h:Mod B s t){b:Nat}(hb:s.nx≤b):Mod B s {t with h:=t.h.del b}:=
 ⟨h.nx,fun c hc hn=>(jP (by omega)).trans (h.old c hc hn),h.gl,fun ht c hc=>by
  show(t.h.del b).get c=none
  cases hx:(t.h.del b).get c with
  |none=>rfl
  |some x=>
   have:=(Tr.fu hx).2
   rw[h.tidy ht c hc] at this;cases this⟩
theorem CW.st {f:FuncId}{args:List AV}{s:St}{Q:CR→Prop}(P:St→Prop)(h:P s)(hW:∀s',P s'→CW X O f args s' Q):CW X O f args s Q:=hW s h
theorem Acc.back {s t:St}{v:AV}{es:Nat}{rows:List (List AV)}(h:Acc t v es rows)(hm:Mod No s t)(hb:∀b,blk v=some b→b<s.nx):Acc s v es rows:=by
 refine⟨?_,h.len⟩
 rcases h.ex with h|⟨b,x,c,rfl,_,⟨f,h2⟩,h3⟩
 ·exact .inl h
 ·have:=hb b rfl
  exact .inr ⟨b,x,c,rfl,this,⟨f,(hm.old b this (fun h=>h)).symm.trans h2⟩,h3⟩
theorem Fin.st {x:EX}{L:Sl}{D:List DE}{s:St}{Q:cf}(P:St→Prop)(h:P s)(hW:∀s',P s'→Fin Q x L D s'):Fin Q x L D s:=hW s h
theorem HS {t:TypeId}{a v:AV}{s:St}(h:aO X t a s=some (.old v)):loadT X t a s=some v:=by
 unfold aO at h
 cases e:loadT X t a s with
 |none=>rw[e] at h;cases h
 |some u=>rw[e] at h;cases h;rfl
theorem BZ {b:Nat}{s:St}(h:s.h.get b=some .dfr):xF [.mark b] s=some {s with h:=s.h.del b}:=by simp only[xF,h,tv]
theorem ft {L:Sl}{s:St}{a:Nat}{t:TypeId}{p v:AV}(hk:lk L a=some p)(hl:aO X t p s=some (.old v)):rG X L s (.cell a t)=some v:=by
 simp only[rG,knO,gL,hk];exact HS hl
theorem yA {fn:Func}{a1 a2:Nat}{t1 t2:TypeId}{L:Sl}{D:List DE}{s s':St}{Q:CR→Prop}{p1 p2 v1 v2:AV}(hr:fn.results.toList=[.cell a1 t1, .cell a2 t2])(hu:xF D s=some s')(k1:lk L a1=some p1)(k2:lk L a2=some p2)(l1:aO X t1 p1 s'=some (.old v1))(l2:aO X t2 p2 s'=some (.old v2))(hQ:Q (.ret (.tup [v1,v2]) s')):Fin (LQ X fn Q) .ret L D s:=
 Jc (l:=[v1,v2]) hu (by rw[hr];simp only[iN,ft k1 l1,ft k2 l2]) hQ
end
end Go.Am
end
section
namespace Go.Am
section
variable {X:Ctx}{ops:Array Oper}{i:Nat}{o:Oper}{rest:Ix}{rem:List Nat}{pend:List bn}{L:Sl}{s s':St}{v:AV}{k:List bn→Sl→St→Option RX}
noncomputable def rxK (X:Ctx)(ops:Array Oper)(i:Nat)(o:Oper)(rest:Ix)(pend:List bn)(L:Sl)(s:St):Bool→Option RX
 |false=>none
 |true=>qv i o pend L s (iB X ops rest) (opG X o.op (gL L) s)
noncomputable def rxT (X:Ctx)(ops:Array Oper)(i:Nat)(o:Oper)(rest:Ix)(pend:List bn)(L:Sl)(s:St):Option Bool→Option RX
 |none=>none
 |some false=>iB X ops rest (⟨i,o, .tup [],none⟩::pend) (bO o.dst (.tup []) L) s
 |some true=>rxK X ops i o rest pend L s (dV L o.op)
noncomputable def NM (X:Ctx)(ops:Array Oper)(i:Nat)(rest:Ix)(pend:List bn)(L:Sl)(s:St):Option Oper→Option RX
 |none=>none
 |some o=>rxT X ops i o rest pend L s (dG ops L o)
noncomputable def rxB (X:Ctx)(ops:Array Oper)(o:Oper)(rem:List Nat)(rest:Ix)(pend:List bn)(L:Sl)(s:St):Bool→Option RX
 |false=>none
 |true=>AU X ops o rem pend rest L s (iB X ops rest) (opG X o.op (gL L) s)
noncomputable def rxP (X:Ctx)(ops:Array Oper)(o:Oper)(rem:List Nat)(rest:Ix)(pend:List bn)(L:Sl)(s:St):Bool→Option RX
 |true=>jl X ops rem pend (bO o.dst (.tup []) L) s (iB X ops rest)
 |false=>none
noncomputable def rxA (X:Ctx)(ops:Array Oper)(o:Oper)(rem:List Nat)(rest:Ix)(pend:List bn)(L:Sl)(s:St):Option Bool→Option RX
 |none=>none
 |some false=>rxP X ops o rem rest pend L s (aP X L o)
 |some true=>rxB X ops o rem rest pend L s (dV L o.op)
noncomputable def Od (X:Ctx)(ops:Array Oper)(rem:List Nat)(rest:Ix)(pend:List bn)(L:Sl)(s:St):Option Oper→Option RX
 |none=>none
 |some o=>rxA X ops o rem rest pend L s (dG ops L o)
theorem Oa:iB X ops [] pend L s=some (.fin L s):=rfl
theorem J6:iB X ops ((i,none)::rest) pend L s=NM X ops i rest pend L s (ops.toList[i]?):=by
 conv=>lhs;unfold iB
 unfold NM rxT rxK
 cases ops.toList[i]? with
 |none=>rfl
 |some o=>
  simp only
  cases dG ops L o with
  |none=>rfl
  |some b=>
   cases b with
   |false=>rfl
   |true=>simp only;cases dV L o.op<;>rfl
theorem Ny:iB X ops ((i,some rem)::rest) pend L s=Od X ops rem rest pend L s (ops.toList[i]?):=by
 conv=>lhs;unfold iB
 unfold Od rxA rxB rxP
 cases ops.toList[i]? with
 |none=>rfl
 |some o=>
  simp only
  cases dG ops L o with
  |none=>rfl
  |some b=>
   cases b with
   |false=>simp only;cases aP X L o<;>rfl
   |true=>simp only;cases dV L o.op<;>rfl
theorem NP:NM X ops i rest pend L s (some o)=rxT X ops i o rest pend L s (dG ops L o):=rfl
theorem Pz:rxT X ops i o rest pend L s (some true)=rxK X ops i o rest pend L s (dV L o.op):=rfl
theorem Po:rxT X ops i o rest pend L s (some false)=iB X ops rest (⟨i,o, .tup [],none⟩::pend) (bO o.dst (.tup []) L) s:=rfl
theorem OZ:rxK X ops i o rest pend L s true=qv i o pend L s (iB X ops rest) (opG X o.op (gL L) s):=rfl
theorem Oc:Od X ops rem rest pend L s (some o)=rxA X ops o rem rest pend L s (dG ops L o):=rfl
theorem OU:rxA X ops o rem rest pend L s (some true)=rxB X ops o rem rest pend L s (dV L o.op):=rfl
theorem OO:rxA X ops o rem rest pend L s (some false)=rxP X ops o rem rest pend L s (aP X L o):=rfl
theorem PE:rxB X ops o rem rest pend L s true=AU X ops o rem pend rest L s (iB X ops rest) (opG X o.op (gL L) s):=rfl
theorem Pe:rxP X ops o rem rest pend L s true=jl X ops rem pend (bO o.dst (.tup []) L) s (iB X ops rest):=rfl
theorem Oi:qv i o pend L s k (some (.old v))=k (⟨i,o,v,none⟩::pend) (bO o.dst v L) s:=rfl
theorem LC:qv i o pend L s k (some (.pure v))=k (⟨i,o,v,none⟩::pend) (bO o.dst v L) s:=rfl
theorem NS {x:AB}(h:s.h.get s.nx=none)(h':s'.h.get s.nx=some x):qv i o pend L s k (some (.val v s'))=k (⟨i,o,v,some (s.nx,x)⟩::pend) (bO o.dst v L) s':=by simp only[qv,h,h']
theorem Oq:AU X ops o rem pend rest L s k (some (.old v))=jl X ops rem pend (bO o.dst v L) s k:=rfl
theorem Kr:AU X ops o rem pend rest L s k (some (.pure v))=jl X ops rem pend (bO o.dst v L) s k:=rfl
theorem NI:AU X ops o rem pend rest L s k (some (.val v s'))=jl X ops rem pend (bO o.dst v L) s' k:=rfl
theorem KP {f:FuncId}{args:List AV}:AU X ops o rem pend rest L s k (some (.call f args))=some (.call o.dst rem (.fn f) args pend rest L s):=rfl
theorem NR:AU X ops o rem pend rest L s k (some (.pan v))=some (.pan v s):=rfl
def vF (rem:List Nat)(pend:List bn):List bn:=pend.filter fun p=>dx p.i rem
def kpS (p:bn)(l:List bn):Bool→List bn
 |true=>p::l
 |false=>l
theorem M3:vF rem []=[]:=rfl
theorem JW {la:Option (Nat×AB)}:vF rem (⟨i,o,v,la⟩::pend)=kpS ⟨i,o,v,la⟩ (vF rem pend) (dx i rem):=by
 unfold vF kpS;rw[List.filter_cons];cases dx i rem<;>rfl
theorem OH {p:bn}:kpS p pend true=p::pend:=rfl
theorem OA {p:bn}:kpS p pend false=pend:=rfl
noncomputable def cxS (p:List bn)(L:Sl)(s:St)(k:List bn→Sl→St→Option RX):Bool→Option RX
 |true=>k p L s
 |false=>none
theorem Ok:jl X ops [] pend L s k=k [] L s:=rfl
theorem Mh {j:Nat}:jl X ops (j::rem) pend L s k=cxS (vF (j::rem) pend) L s k ((vF (j::rem) pend).all (aC X ops L s)):=by
 unfold jl qx cxS vF
 simp only
 cases hq:((pend.filter fun p=>dx p.i (j::rem)).all (aC X ops L s))<;>simp only
theorem OS {p:List bn}:cxS p L s k true=k p L s:=rfl
theorem ND {p:List Nat}:kx [] p=[]:=rfl
theorem Qp {l:Iy}{p:List Nat}:kx ((i,none)::l) p=(i,none)::kx l (i::p):=rfl
theorem Qe {l:Iy}{p:List Nat}{m:List Bool}:kx ((i,some m)::l) p=(i,some (mask m p))::kx l (mask m p):=rfl
theorem Qq {α:Type}{m:List Bool}{p:α}{l:List α}:mask (true::m) (p::l)=p::mask m l:=rfl
theorem Qi {α:Type}{m:List Bool}{p:α}{l:List α}:mask (false::m) (p::l)=mask m l:=rfl
theorem Qd {α:Type}{l:List α}:mask [] l=[]:=by cases l<;>rfl
variable {O:bj}
theorem cg {D:List DE}{Q:cf}{dst:Option Nat}{t:Tgt}{args:List AV}{K:CR→Prop}(h:Ca X O t args s K)(hr:∀v s',K (.ret v s')→∃r,jl X ops rem pend (bO dst v L) s' (iB X ops rest)=some r∧RKX X O ops D Q r)(hp:∀v s',K (.pan v s')→Fin Q (.pan v) [] D s'):RKX X O ops D Q (.call dst rem t args pend rest L s):=
 GJ h (fun v s' hk=>by
  obtain⟨r,h1,h2⟩:=hr v s' hk
  unfold jl at h1
  cases hl:qx X ops rem pend (bO dst v L) s' with
  |none=>rw[hl] at h1;cases h1
  |some p=>rw[hl] at h1;exact⟨p,rfl,MG h1 h2⟩) hp
end
end Go.Am
end
section
namespace Go.Am
structure Bx (s:St)(b:Nat)(l:List AV):Prop where
 ex:∃c n,s.h.get b=some (.cells c n)∧∀i u,l[i]? =some u→c.get i=some u
 lt:b<s.nx
theorem Bx.mod {B:Nat→Prop}{s t:St}{b:Nat}{l:List AV}(h:Bx s b l)(hm:Mod B s t)(hb:¬B b):Bx t b l:=
 let⟨c,n,h1,h2⟩:=h.ex;⟨⟨c,n,(hm.old _ h.lt hb).trans h1,h2⟩,Nat.lt_of_lt_of_le h.lt hm.nx⟩
theorem Bx.no {s t:St}{b:Nat}{l:List AV}(h:Bx s b l)(hm:Mod No s t):Bx t b l:=h.mod hm (fun h=>h)
theorem Bx.put {s:St}{b b':Nat}{l:List AV}{x:AB}(h:Bx s b l)(hn:b≠b'):Bx {s with h:=s.h.put b' x} b l:=
 let⟨c,n,h1,h2⟩:=h.ex;⟨⟨c,n,(aT hn).trans h1,h2⟩,h.lt⟩
theorem Bx.new {s:St}{b:Nat}{l:List AV}{x:AB}(h:Bx s b l):Bx {s with h:=s.h.put s.nx x,nx:=s.nx+1} b l:=
 let⟨c,n,h1,h2⟩:=h.ex;⟨⟨c,n,(aT (Nat.ne_of_lt h.lt)).trans h1,h2⟩,Nat.lt_succ_of_lt h.lt⟩
theorem Bx.box {s:St}{cs:List AV}{n:Nat}:Bx {s with h:=s.h.put s.nx (.cells (Tr.of cs) n),nx:=s.nx+1} s.nx cs:=
 ⟨⟨_,_,bm,fun i u h=>by rw[dF];exact h⟩,Nat.lt_succ_self _⟩
theorem Bx.ldL {s:St}{b:Nat}{l:List AV}(h:Bx s b l):∃c n,s.h.get b=some (.cells c n)∧Am.ldL c 0 l.length=some l:=by
 obtain⟨c,n,h1,h2⟩:=h.ex
 exact⟨c,n,h1,aR.mpr ⟨rfl,fun i u hi=>by rw[Nat.zero_add];exact h2 i u hi⟩⟩
theorem Bx.take {s:St}{b:Nat}{l m:List AV}(h:Bx s b (l++m)):Bx s b l:=
 let⟨c,n,h1,h2⟩:=h.ex;⟨⟨c,n,h1,fun i u hi=>h2 i u (by rw[List.getElem?_append_left (List.getElem?_eq_some_iff.mp hi).1];exact hi)⟩,h.lt⟩
section
variable {X:Ctx}
theorem Bx.ld {t:TypeId}{d:TypeDesc}{n b i:Nat}{l:List AV}{v:AV}{s:St}(h:Bx s b l)(hi:l[i]? =some v)(hu:X.und t=some d)(hd:m9 d=false)(hn:X.size t=some n):aO X t (.ptr (some (b,i))) s=some (.old v):=
 let⟨_,_,h1,h2⟩:=h.ex;ah hu hd hn h1 (h2 i v hi)
theorem Bx.all {t:TypeId}{d:TypeDesc}{b:Nat}{l:List AV}{s:St}(h:Bx s b l)(hu:X.und t=some d)(hd:m9 d=true)(hn:X.size t=some l.length):aO X t (.ptr (some (b,0))) s=some (.old (.agg l)):=
 let⟨_,_,h1,h2⟩:=h.ldL;cE hu hd hn h1 h2
theorem Bx.st {t:TypeId}{b i:Nat}{l:List AV}{v w:AV}{s:St}(h:Bx s b l)(hi:l[i]? =some v)(hn:X.size t=some 1)(hw:w.cells=[w])(ho:aX [w]=true):
  ∃x,cK X t (.ptr (some (b,i))) w s=some (.val (.tup []) {s with h:=s.h.put b x})∧Bx {s with h:=s.h.put b x} b (l.set i w):=by
 obtain⟨c,n,h1,h2⟩:=h.ex
 have hs:stL [w] i c=some (c.put i w):=by simp only[stL,h2 i v hi,tK,kH]
 refine⟨.cells (c.put i w) n,eY hn h1 (by rw[hw];rfl) (by rw[hw];exact ho) (by rw[hw];exact hs),⟨_,_,bm,fun j u hj=>?_⟩,h.lt⟩
 rw[List.getElem?_set] at hj
 rw[Tr.cV]
 by_cases e:j=i
 ·subst e
  rw[if_pos rfl] at hj ⊢
  split at hj
  ·exact hj
  ·cases hj
 ·rw[if_neg (fun h=>e h.symm)] at hj
  rw[if_neg e];exact h2 j u hj
theorem Bx.stm {t:TypeId}{b i:Nat}{l:List AV}{v w:AV}{s:St}(h:Bx s b l)(hi:l[i]? =some v)(hn:X.size t=some 1)(hw:w.cells=[w])(ho:aX [w]=true):
  ∃s',cK X t (.ptr (some (b,i))) w s=some (.val (.tup []) s')∧Bx s' b (l.set i w)∧Mod (fun c=>c=b) s s'∧s'.nx=s.nx:=by
 obtain⟨x,h1,h2⟩:=h.st hi hn hw ho
 exact⟨_,h1,h2,(Mod.refl _ s).put _ (.inr rfl) h.lt,rfl⟩
theorem Bx.sta {t:TypeId}{b:Nat}{l m:List AV}{s:St}(h:Bx s b l)(hl:m.length=l.length)(hn:X.size t=some l.length)(ho:aX m=true):
  ∃x,cK X t (.ptr (some (b,0))) (.agg m) s=some (.val (.tup []) {s with h:=s.h.put b x})∧Bx {s with h:=s.h.put b x} b m:=by
 obtain⟨c,n,h1,h2⟩:=h.ex
 obtain⟨c',hc⟩:=ia (c:=c) (l:=m) (off:=0) fun j hj=>⟨l[j]'(by omega),by rw[Nat.zero_add];exact h2 j _ (List.getElem?_eq_getElem (by omega))⟩
 refine⟨.cells c' n,eY hn h1 hl ho hc,⟨c',n,bm,fun j u hj=>?_⟩,h.lt⟩
 have:=(List.getElem?_eq_some_iff.mp hj).1
 rw[lB hc,if_pos ⟨Nat.zero_le _,by omega⟩]
 exact hj
theorem Bx.Aq {t:TypeId}{b:Nat}{l m:List AV}{s:St}(h:Bx s b l)(hl:m.length=l.length)(hn:X.size t=some l.length)(ho:aX m=true):
  ∃s',cK X t (.ptr (some (b,0))) (.agg m) s=some (.val (.tup []) s')∧Bx s' b m∧Mod (fun c=>c=b) s s'∧s'.nx=s.nx:=by
 obtain⟨x,h1,h2⟩:=h.sta hl hn ho
 exact⟨_,h1,h2,(Mod.refl _ s).put _ (.inr rfl) h.lt,rfl⟩
theorem yw {t:TypeId}{b i n:Nat}{c:Tr AV}{v w:AV}{s:St}(hb:s.h.get b=some (.cells c n))(hi:c.get i=some v)(hn:X.size t=some 1)(hw:w.cells=[w])(ho:aX [w]=true):
  cK X t (.ptr (some (b,i))) w s=some (.val (.tup []) {s with h:=s.h.put b (.cells (c.put i w) n)}):=
 eY hn hb (by rw[hw];rfl) (by rw[hw];exact ho) (by rw[hw];simp only[stL,hi,tK,kH])
end
theorem A4 {s:St}{cs zs:List AV}{cc:Tr AV}{n:Nat}(hcc:stL cs 0 (Tr.of zs)=some cc):(fun s':St=>Mod No s s'∧s'.nx=s.nx+1∧Bx s' s.nx cs) {h:=(s.h.put s.nx (.cells (Tr.of zs) n)).put s.nx (.cells cc n),nx:=s.nx+1,gl:=s.gl,sh:=s.sh}:=by
 refine⟨((Mod.refl _ s).new _).put _ (.inl (Nat.le_refl _)) (Nat.lt_succ_self _),rfl,⟨cc,n,bm,fun j u hj=>?_⟩,Nat.lt_succ_self _⟩
 have:=(List.getElem?_eq_some_iff.mp hj).1
 rw[lB hcc,if_pos ⟨Nat.zero_le _,by omega⟩]
 exact hj
section
variable {X:Ctx}{O:bj}{c:Code}{L:Sl}{D:List DE}{s:St}{Q:cf}{l0 l1 l2:List AV}{n0 n1 n2:Nat}
theorem eE (h:∀s',s'.nx=s.nx+1→Mod No s s'→Bx s' s.nx l0→WL X O c L D s' Q):WL X O c L D {h:=s.h.put s.nx (.cells (Tr.of l0) n0),nx:=s.nx+1,gl:=s.gl,sh:=s.sh} Q:=
 h _ rfl ((Mod.refl _ s).new _) (Bx.box (s:=s))
theorem zj (h:∀s',s'.nx=s.nx+2→Mod No s s'→Bx s' s.nx l0→Bx s' (s.nx+1) l1→WL X O c L D s' Q):WL X O c L D {h:=(s.h.put s.nx (.cells (Tr.of l0) n0)).put (s.nx+1) (.cells (Tr.of l1) n1),nx:=s.nx+1+1,gl:=s.gl,sh:=s.sh} Q:=
 h _ rfl (((Mod.refl _ s).new _).new _) (Bx.box (s:=s)).new (Bx.box (s:={h:=s.h.put s.nx (.cells (Tr.of l0) n0),nx:=s.nx+1,gl:=s.gl,sh:=s.sh}))
theorem NH (h:∀s',s'.nx=s.nx+3→Mod No s s'→Bx s' s.nx l0→Bx s' (s.nx+1) l1→Bx s' (s.nx+2) l2→WL X O c L D s' Q):WL X O c L D {h:=((s.h.put s.nx (.cells (Tr.of l0) n0)).put (s.nx+1) (.cells (Tr.of l1) n1)).put (s.nx+1+1) (.cells (Tr.of l2) n2),nx:=s.nx+1+1+1,gl:=s.gl,sh:=s.sh} Q:=
 h _ rfl ((((Mod.refl _ s).new _).new _).new _) (Bx.box (s:=s)).new.new (Bx.box (s:={h:=s.h.put s.nx (.cells (Tr.of l0) n0),nx:=s.nx+1,gl:=s.gl,sh:=s.sh})).new (Bx.box (s:={h:=(s.h.put s.nx (.cells (Tr.of l0) n0)).put (s.nx+1) (.cells (Tr.of l1) n1),nx:=s.nx+1+1,gl:=s.gl,sh:=s.sh}))
theorem dy {cs zs:List AV}{cc:Tr AV}(hcc:stL cs 0 (Tr.of zs)=some cc)(h:∀s',s'.nx=s.nx+1→Mod No s s'→Bx s' s.nx cs→WL X O c L D s' Q):WL X O c L D {h:=(s.h.put s.nx (.cells (Tr.of zs) n0)).put s.nx (.cells cc n0),nx:=s.nx+1,gl:=s.gl,sh:=s.sh} Q:=
 let⟨h1,h2,h3⟩:=A4 (s:=s) (n:=n0) hcc;h _ h2 h1 h3
end
def NA (P:Sl→St→Prop)(D:List DE):cf:=fun x fr s=>x= .norm∧fr.d=D∧∃L,P L s∧cT fr.t L
section
variable {X:Ctx}{O:bj}
theorem fP {a b:Code}{L:Sl}{D:List DE}{s:St}{Q:cf}(P:Sl→St→Prop)(h:WL X O a L D s (NA P D))(hb:∀L' s',P L' s'→WL X O b L' D s' Q):WL X O (.seq a b) L D s Q:=
 fO (h.mono fun x fr s' ⟨h1,h2,L',h3,h4⟩=>by
  obtain⟨t,d⟩:=fr
  cases h1;cases h2
  exact hb L' s' h3 t h4)
theorem La {a b:Code}{L:Sl}{D:List DE}{s:St}{Q:cf}(P:Sl→St→Prop)(h:WL X O a L D s (NA P D))(hb:∀L' s',P L' s'→WL X O b L' D s' Q):WL X O a L D s (vx X O b Q):=
 h.mono fun x fr s' ⟨h1,h2,L',h3,h4⟩=>by
  obtain⟨t,d⟩:=fr
  cases h1;cases h2
  exact hb L' s' h3 t h4
theorem cG {P:Sl→St→Prop}{L:Sl}{D:List DE}{s:St}(M:Sl)(h:P M s)(hM:aI (M.map (·.1)) L=M):Fin (NA P D) .norm L D s:=fun t ht=>
 ⟨rfl,rfl,M,h,by rw[←hM];exact ht.jn _⟩
end
def Az (P:Sl→St→Prop)(D:List DE)(Q:cf):cf:=fun x fr s=>match x with
 | .norm=>fr.d=D∧∃L,P L s∧cT fr.t L
 |x=>Q x fr s
section
variable {X:Ctx}{O:bj}
theorem eL {a b:Code}{L:Sl}{D:List DE}{s:St}{Q:cf}(P:Sl→St→Prop)(h:WL X O a L D s (Az P D Q))(hb:∀L' s',P L' s'→WL X O b L' D s' Q):WL X O (.seq a b) L D s Q:=
 fO (h.mono fun x fr s' hx=>by
  cases x with
  |norm=>
   obtain⟨h2,L',h3,h4⟩:=hx
   obtain⟨t,d⟩:=fr
   cases h2
   exact hb L' s' h3 t h4
  | _=>exact hx)
theorem dD {P:Sl→St→Prop}{L:Sl}{D:List DE}{s:St}{Q:cf}(M:Sl)(h:P M s)(hM:aI (M.map (·.1)) L=M):Fin (Az P D Q) .norm L D s:=fun t ht=>
 ⟨rfl,M,h,by rw[←hM];exact ht.jn _⟩
theorem Ab {P:Sl→St→Prop}{L:Sl}{D E:List DE}{s:St}{Q:cf}(h:Fin Q .ret L D s):Fin (Az P E Q) .ret L D s:=h
theorem zR {P:Sl→St→Prop}{L:Sl}{D E:List DE}{s:St}{Q:cf}{v:AV}(h:Fin Q (.pan v) L D s):Fin (Az P E Q) (.pan v) L D s:=h
theorem zJ {P:Sl→St→Prop}{L:Sl}{D E:List DE}{s:St}{Q:cf}{i:Nat}(h:Fin Q (.brk i) L D s):Fin (Az P E Q) (.brk i) L D s:=h
end
theorem Sli.at {s:St}{v:AV}{es:Nat}{rows:List (List AV)}(h:Sli s v es rows){i:Nat}{r:List AV}(hr:rows[i]? =some r):
  ∃b off c x t n,v= .slc (some (b,off,es)) rows.length c x∧b<s.nx∧s.h.get b=some (.cells t n)∧ldL t (off+i*es) es=some r:=by
 obtain⟨a,c,x,rfl,h5⟩:=h.ex
 obtain⟨b,off,t,n,rfl,k1,k2,k3⟩:=h5 (by intro e;subst e;simp at hr)
 exact⟨b,off,c,x,t,n,rfl,k1,k2,k3 i r hr⟩
theorem Bx.sli {s:St}{b es c n:Nat}{x:Bool}{rows:List (List AV)}(h:Bx s b rows.flatten)(hl:∀r∈rows,r.length=es)(hn:rows.length=n):Sli s (.slc (some (b,0,es)) n c x) es rows:=by
 obtain⟨t,m,h1,h2⟩:=h.ldL
 subst hn
 exact⟨_,c,x,rfl,fun _=>⟨b,0,t,m,rfl,h.lt,h1,gD hl (by rw[dN hl] at h2;exact h2)⟩⟩
theorem eS {t:Tr AV}{i:Nat}{v:AV}(h:ldL t i 1=some [v]):t.get i=some v:=by
 have:=(aR.mp h).2 0 v rfl
 simpa using this
end Go.Am
end
section
namespace Go.Am
theorem Iq {k:Nat}{v:AV}{L:Sl}:lk ((k,v)::L) k=some v:=by simp[lk]
theorem Ef {k j:Nat}{v:AV}{L:Sl}(h:k≠j):lk ((k,v)::L) j=lk L j:=by
 have:Nat.beq k j=false:=by
  cases hq:Nat.beq k j with
  |false=>rfl
  |true=>exact absurd (Nat.beq_eq.mp hq) h
 simp only[lk,this]
section
variable {k:IntKind}{n:Int}{b:Bool}{x:ByteArray}{f:FloatKind}{m:Nat}
theorem PA:ofV (.int k n)= .int k n:=rfl
theorem Pj:ofV (.bool b)= .bool b:=rfl
theorem PN:ofV (.string x)= .str (Str.of x):=rfl
theorem Pr:ofV (.float f m)= .flt f m:=rfl
theorem OT:ofV (.pointer none)= .ptr none:=rfl
theorem P3:ofV (.slice none 0 0)= .slc none 0 0 true:=rfl
theorem O4:ofV (.map none)= .map none:=rfl
theorem O6:ofV .nilFunc= .nilFunc:=rfl
theorem P0:ofV .nilIface= .nilIface:=rfl
end
def uBp:=PLift.up (And.intro (And.intro (And.intro (And.intro (And.intro (And.intro (And.intro (@GK) (And.intro (@JS) (@OG))) (And.intro (@Pc) (And.intro (@Ov) (@PX)))) (And.intro (And.intro (@NY) (And.intro (@KS) (@NV))) (And.intro (@KO) (And.intro (@GC) (@MK))))) (And.intro (And.intro (And.intro (@Ns) (And.intro (@J5) (@JL))) (And.intro (@O9) (And.intro (@OY) (@P1)))) (And.intro (And.intro (@PV) (And.intro (@dV.eq_1) (@Op.operands.eq_1))) (And.intro (And.intro (@Op.operands.eq_2) (@Op.operands.eq_3)) (And.intro (@Op.operands.eq_4) (@Op.operands.eq_5)))))) (And.intro (And.intro (And.intro (And.intro (@Op.operands.eq_6) (And.intro (@Op.operands.eq_7) (@Op.operands.eq_8))) (And.intro (@Op.operands.eq_9) (And.intro (@Op.operands.eq_10) (@Op.operands.eq_11)))) (And.intro (And.intro (@Op.operands.eq_12) (And.intro (@Op.operands.eq_13) (@Op.operands.eq_14))) (And.intro (And.intro (@Op.operands.eq_15) (@Op.operands.eq_16)) (And.intro (@Op.operands.eq_17) (@Op.operands.eq_18))))) (And.intro (And.intro (And.intro (@Op.operands.eq_19) (And.intro (@Op.operands.eq_20) (@Op.operands.eq_21))) (And.intro (@Op.operands.eq_22) (And.intro (@Op.operands.eq_23) (@Op.operands.eq_24)))) (And.intro (And.intro (@Op.operands.eq_25) (And.intro (@Op.operands.eq_26) (@Op.operands.eq_27))) (And.intro (And.intro (@Op.operands.eq_28) (@Op.operands.eq_29)) (And.intro (@Op.operands.eq_30) (@Op.operands.eq_31))))))) (And.intro (And.intro (And.intro (And.intro (And.intro (@Op.operands.eq_32) (And.intro (@Op.operands.eq_33) (@Op.operands.eq_34))) (And.intro (@Op.operands.eq_35) (And.intro (@Op.operands.eq_36) (@Op.operands.eq_37)))) (And.intro (And.intro (@Op.operands.eq_38) (And.intro (@Op.operands.eq_39) (@Op.operands.eq_40))) (And.intro (@Op.operands.eq_41) (And.intro (@Op.operands.eq_42) (@Op.operands.eq_43))))) (And.intro (And.intro (And.intro (@Call.operands.eq_1) (And.intro (@N7) (@Lr))) (And.intro (@Pm) (And.intro (@Ol) (@Hy)))) (And.intro (And.intro (@K5) (And.intro (@JZ) (@Option.isSome_some.{0}))) (And.intro (And.intro (@Pd) (@Lg)) (And.intro (@NX) (@NJ)))))) (And.intro (And.intro (And.intro (And.intro (@Option.getD_some.{0}) (And.intro (@aP.eq_1) (@opG.eq_1))) (And.intro (@opG.eq_2) (And.intro (@opG.eq_3) (@opG.eq_4)))) (And.intro (And.intro (@opG.eq_5) (And.intro (@opG.eq_6) (@opG.eq_7))) (And.intro (And.intro (@opG.eq_8) (@opG.eq_9)) (And.intro (@opG.eq_10) (@opG.eq_11))))) (And.intro (And.intro (And.intro (@opG.eq_12) (And.intro (@opG.eq_13) (@opG.eq_14))) (And.intro (@opG.eq_15) (And.intro (@opG.eq_16) (@opG.eq_17)))) (And.intro (And.intro (@opG.eq_18) (And.intro (@opG.eq_19) (@opG.eq_20))) (And.intro (And.intro (@opG.eq_21) (@opG.eq_22)) (And.intro (@opG.eq_23) (@opG.eq_24)))))))) (And.intro (And.intro (And.intro (And.intro (And.intro (And.intro (@opG.eq_25) (And.intro (@opG.eq_26) (@opG.eq_27))) (And.intro (@opG.eq_28) (And.intro (@opG.eq_29) (@opG.eq_30)))) (And.intro (And.intro (@Nu) (And.intro (@Np) (@ofV.eq_1))) (And.intro (@ofV.eq_2) (And.intro (@pe.eq_1) (@pe.eq_2))))) (And.intro (And.intro (And.intro (@pe.eq_3) (And.intro (@pe.eq_4) (@pe.eq_5))) (And.intro (@pe.eq_6) (And.intro (@pe.eq_7) (@pe.eq_8)))) (And.intro (And.intro (@pe.eq_9) (And.intro (@dX.eq_1) (@dX.eq_3))) (And.intro (And.intro (@dX.eq_5) (@dX.eq_7)) (And.intro (@dX.eq_9) (@dX.eq_10)))))) (And.intro (And.intro (And.intro (And.intro (@dX.eq_11) (And.intro (@uf.eq_1) (@ya.eq_1))) (And.intro (@jA.eq_1) (And.intro (@jA.eq_2) (@tf.eq_1)))) (And.intro (And.intro (@tf.eq_2) (And.intro (@List.map_cons.{0,0}) (@List.map_nil.{0,0}))) (And.intro (And.intro (@List.getElem?_cons_zero.{0}) (@List.getElem?_cons_succ.{0})) (And.intro (@Option.map_some.{0,0}) (@Option.map_none.{0,0}))))) (And.intro (And.intro (And.intro (@Array.toList_append.{0}) (And.intro (@List.append_nil.{0}) (@List.nil_append.{0}))) (And.intro (@List.cons_append.{0}) (And.intro (@Option.toArray.eq_1.{0}) (@Option.toArray.eq_2.{0})))) (And.intro (And.intro (@PQ) (And.intro (@Py) (@OI))) (And.intro (And.intro (@Ps) (@PK)) (And.intro (@O3) (@O0))))))) (And.intro (And.intro (And.intro (And.intro (And.intro (@PB) (And.intro (@OJ) (@OC))) (And.intro (@O2) (And.intro (@OV) (@Pt)))) (And.intro (And.intro (@Pk) (And.intro (@PJ) (@Gt))) (And.intro (@OX) (And.intro (@P5) (@Is))))) (And.intro (And.intro (And.intro (@GI) (And.intro (@Pl) (@PG))) (And.intro (@P9) (And.intro (@Pn) (@bN)))) (And.intro (And.intro (@NC) (And.intro (@MV) (@Nj))) (And.intro (And.intro (@qu.eq_1) (@Dw)) (And.intro (@ti.eq_1) (@ti.eq_2)))))) (And.intro (And.intro (And.intro (And.intro (@lH.eq_1) (And.intro (@iK.eq_1) (@M5))) (And.intro (@PM) (And.intro (@O5) (@vV)))) (And.intro (And.intro (@Ox) (And.intro (@zl) (@Kw))) (And.intro (And.intro (@LF) (@Kk)) (And.intro (@Jt) (@Lh))))) (And.intro (And.intro (And.intro (@L2) (And.intro (@GP) (@Iq))) (And.intro (@Ef) (And.intro (@PA) (@Pj)))) (And.intro (And.intro (@PN) (And.intro (@Pr) (@OT))) (And.intro (And.intro (@P3) (@O4)) (And.intro (@O6) (@P0)))))))))
theorem uB:type_of% uBp.1:=uBp.1
def uDp:=PLift.up (And.intro (And.intro (And.intro (And.intro (And.intro (@MF) (And.intro (@LP) (@NF))) (And.intro (@Og) (And.intro (@O7) (@PZ)))) (And.intro (And.intro (@PD) (And.intro (@NK) (@Pv))) (And.intro (@Px) (And.intro (@PC) (@OE))))) (And.intro (And.intro (And.intro (@MQ) (And.intro (@KX) (@Ou))) (And.intro (@ML) (And.intro (@Kx) (@Nx)))) (And.intro (And.intro (@Lv) (And.intro (@N9) (@Qj))) (And.intro (@NZ) (And.intro (@Pw) (@mask.eq_1)))))) (And.intro (And.intro (And.intro (And.intro (@mask.eq_2) (And.intro (@aC.eq_1) (@aB.eq_1))) (And.intro (@aB.eq_2) (And.intro (@List.all_cons.{0}) (@all_nil)))) (And.intro (And.intro (@Bool.and_self) (And.intro (@Bool.and_true) (@Bool.true_and))) (And.intro (@Bool.false_eq_true) (And.intro (@sX) (@pb))))) (And.intro (And.intro (And.intro (@sa) (And.intro (@BE) (@o7))) (And.intro (@Bf) (And.intro (@wx) (@Bd)))) (And.intro (And.intro (@yv) (And.intro (@yN) (@yy))) (And.intro (@AH) (And.intro (@pP) (@nR)))))))
theorem uD:type_of% uDp.1:=uDp.1
def uEp:=PLift.up (And.intro (And.intro (And.intro (And.intro (And.intro (@Oa) (And.intro (@J6) (@Ny))) (And.intro (And.intro (@NP) (@Pz)) (And.intro (@Po) (@OZ)))) (And.intro (And.intro (@Oc) (And.intro (@OU) (@OO))) (And.intro (And.intro (@PE) (@Pe)) (And.intro (@Oi) (@LC))))) (And.intro (And.intro (And.intro (@Oq) (And.intro (@Kr) (@NI))) (And.intro (And.intro (@KP) (@NR)) (And.intro (@M3) (@JW)))) (And.intro (And.intro (@OH) (And.intro (@OA) (@Ok))) (And.intro (And.intro (@Mh) (@OS)) (And.intro (@ND) (@Qp)))))) (And.intro (And.intro (And.intro (And.intro (@Qe) (And.intro (@Qq) (@Qi))) (And.intro (And.intro (@Qd) (@IF)) (And.intro (@EV) (@aC.eq_1)))) (And.intro (And.intro (@aB.eq_1) (And.intro (@aB.eq_2) (@List.all_cons.{0}))) (And.intro (And.intro (@all_nil) (@Bool.and_self)) (And.intro (@Bool.and_true) (@Bool.true_and))))) (And.intro (And.intro (And.intro (@Bool.false_eq_true) (And.intro (@sX) (@pb))) (And.intro (And.intro (@sa) (@BE)) (And.intro (@o7) (@Bf)))) (And.intro (And.intro (And.intro (@wx) (@Bd)) (And.intro (@yv) (@yN))) (And.intro (And.intro (@yy) (@AH)) (And.intro (@pP) (@nR)))))))
theorem uE:type_of% uEp.1:=uEp.1
class Stp (g:Prop)(n:outParam Prop):Prop where
 imp:n→g
class Sts (g:Prop)(n:outParam Prop):Prop where
 imp:n→g
instance (priority:=low) QI {g:Prop}:Sts g g:=⟨id⟩
instance (priority:=high) QN {g n:Prop}[h:Stp g n]:Sts g n:=⟨h.imp⟩
theorem uS {g n:Prop}[h:Stp g n](x:n):g:=h.imp x
section
variable {X:Ctx}{O:bj}{a b:Code}{L:Sl}{D E:List DE}{s:St}{Q:cf}{i:Nat}{v:AV}{n:Prop}{P:Sl→St→Prop}{ops:Array Oper}{α:Type}{I:α→Sl→St→Prop}{μ:α→Nat}{y:α}
instance st0 [h:Sts (WL X O a L D s (vx X O b Q)) n]:Stp (WL X O (.seq a b) L D s Q) n:=⟨fun x=>fO (h.imp x)⟩
instance st1 [h:Sts (WL X O b L D s (rH i Q)) n]:Stp (WL X O (.block i b) L D s Q) n:=⟨fun x=>BS (h.imp x)⟩
instance st2 [h:Sts (WL X O b L D s Q) n]:Stp (WL X O (.scope b) L D s Q) n:=⟨fun x=>IC (h.imp x)⟩
instance st3 [h:Sts (Fin Q .norm L D s) n]:Stp (WL X O (.label i) L D s Q) n:=⟨fun x=>B5 (h.imp x)⟩
instance st4 [h:Sts (Fin Q .norm L D s) n]:Stp (WL X O .skip L D s Q) n:=⟨fun x=>oC (h.imp x)⟩
instance st5 [h:Sts (Fin Q (.brk i) L D s) n]:Stp (WL X O (.exit i) L D s Q) n:=⟨fun x=>K8 (h.imp x)⟩
instance st6 [h:Sts (Fin Q .ret L D s) n]:Stp (WL X O .ret L D s Q) n:=⟨fun x=>Nd (h.imp x)⟩
instance st7 [h:Sts (WL X O b L D s Q) n]:Stp (Fin (vx X O b Q) .norm L D s) n:=⟨fun x=>cJ (h.imp x)⟩
instance st8 [h:Sts (Fin Q (.brk i) L D s) n]:Stp (Fin (vx X O b Q) (.brk i) L D s) n:=⟨fun x=>Be (h.imp x)⟩
instance st9 [h:Sts (Fin Q .ret L D s) n]:Stp (Fin (vx X O b Q) .ret L D s) n:=⟨fun x=>BF (h.imp x)⟩
instance Gg [h:Sts (Fin Q (.pan v) L D s) n]:Stp (Fin (vx X O b Q) (.pan v) L D s) n:=⟨fun x=>BW (h.imp x)⟩
instance QG [h:Sts (Fin Q .norm L D s) n]:Stp (Fin (rH i Q) .norm L D s) n:=⟨fun x=>Md (h.imp x)⟩
instance JE [h:Sts (Fin Q .ret L D s) n]:Stp (Fin (rH i Q) .ret L D s) n:=⟨fun x=>AT (h.imp x)⟩
instance Nt [h:Sts (Fin Q (.pan v) L D s) n]:Stp (Fin (rH i Q) (.pan v) L D s) n:=⟨fun x=>AA (h.imp x)⟩
instance Ph [h:Sts (Fin Q .norm L D s) n]:Stp (Fin (rH i Q) (.brk i) L D s) n:=⟨fun x=>yX (Nat.beq_refl i) (h.imp x)⟩
instance PL [h:Sts (Fin Q (.brk i) L D s) n]:Stp (Fin (oO I μ D Q y) (.brk i) L D s) n:=⟨fun x=>Aa (h.imp x)⟩
instance QF [h:Sts (Fin Q .ret L D s) n]:Stp (Fin (oO I μ D Q y) .ret L D s) n:=⟨fun x=>Ap (h.imp x)⟩
instance QK [h:Sts (Fin Q (.pan v) L D s) n]:Stp (Fin (oO I μ D Q y) (.pan v) L D s) n:=⟨fun x=>zA (h.imp x)⟩
instance QO [h:Sts (Fin Q .ret L D s) n]:Stp (Fin (Az P E Q) .ret L D s) n:=⟨fun x=>Ab (h.imp x)⟩
instance QH [h:Sts (Fin Q (.pan v) L D s) n]:Stp (Fin (Az P E Q) (.pan v) L D s) n:=⟨fun x=>zR (h.imp x)⟩
instance QL [h:Sts (Fin Q (.brk i) L D s) n]:Stp (Fin (Az P E Q) (.brk i) L D s) n:=⟨fun x=>zJ (h.imp x)⟩
instance QM [h:Sts (Fin Q .norm L D s) n]:Stp (RK X O ops D Q (.fin L s)) n:=⟨fun x=>dR (h.imp x)⟩
instance QJ [h:Sts (Fin Q .norm L D s) n]:Stp (RKX X O ops D Q (.fin L s)) n:=⟨fun x=>Eu (h.imp x)⟩
instance QP [h:Sts (Fin Q (.pan v) L D s) n]:Stp (RK X O ops D Q (.pan v L s)) n:=⟨fun x=>Nn (h.imp x)⟩
end
def uKp:=PLift.up (And.intro @aI.eq_1 (And.intro @aI.eq_2 (And.intro @Iq @Ef)))
theorem uK:type_of% uKp.1:=uKp.1
theorem uH {P Q:Prop}(q:Q)(h:Q→P:=by
 intro q
 try(first|refine uS ?_ |refine aa rfl ?_)
 try(first|refine uS ?_ |refine aa rfl ?_)
 try(first|refine uS ?_ |refine aa rfl ?_)
 try(first|refine uS ?_ |refine aa rfl ?_)
 try(first|refine uS ?_ |refine aa rfl ?_)
 try(first|refine uS ?_ |refine aa rfl ?_)
 try(first|refine uS ?_ |refine aa rfl ?_)
 try(first|refine uS ?_ |refine aa rfl ?_)
 exact q):P:=h q
theorem uJ {X:Ctx}{O:bj}(ks:List Nat){c:Code}{L M:Sl}{D:List DE}{s:St}{Q:cf}(k:WL X O c M D s Q)(h:aI ks L=M:=by simp(disch:=omega) only[uK];exact rfl):WL X O c L D s Q:=WL.jn ks (h▸k)
end Go.Am
end
section
namespace Go.Proofs.Ytofohkdkpbigiaa
open Go.Am
set_option maxRecDepth 10000
theorem uQ {a b:Prop}(h:a)(k:b):a∧b:=⟨h,k⟩
def uTp:=PLift.up (uQ (uQ (uQ (uQ (uQ (uQ (uQ (lS) (uQ (jH) (MX))) (uQ (Ng) (uQ (aN) (ay)))) (uQ (uQ (Ak) (uQ (M8) (mg))) (uQ (eC) (uQ (HM) (MN))))) (uQ (uQ (uQ (jB) (uQ (qN) (yP))) (uQ (tH) (uQ (aE) (aF)))) (uQ (uQ (z6) (uQ (HQ) (CA))) (uQ (uQ (Lf) (K7)) (uQ (Lb) (mc)))))) (uQ (uQ (uQ (uQ (lu) (uQ (Lj) (JN))) (uQ (oh) (uQ (eM) (DU)))) (uQ (uQ (Lo) (uQ (oB) (jc))) (uQ (qe) (uQ (DP) (vH))))) (uQ (uQ (uQ (zD) (uQ (Aj) (Kv))) (uQ (m4) (uQ (bT) (mK)))) (uQ (uQ (D9) (uQ (ct) (fW))) (uQ (uQ (JQ) (K6)) (uQ ((fun{a n c x s}=>il (a:=a) (n:=n) (c:=c) (x:=x) (s:=s) ct)) (dS))))))) (uQ (uQ (uQ (uQ (uQ (fV) (uQ (KA) (JH))) (uQ ((fun{a n c x s}=>il (a:=a) (n:=n) (c:=c) (x:=x) (s:=s) dS)) (uQ (eP) (fY)))) (uQ (uQ (KT) (uQ (LA) ((fun{a n c x s}=>il (a:=a) (n:=n) (c:=c) (x:=x) (s:=s) eP)))) (uQ (eO) (uQ (jt) (KF))))) (uQ (uQ (uQ (JF) (uQ ((fun{a n c x s}=>il (a:=a) (n:=n) (c:=c) (x:=x) (s:=s) eO)) (bZ))) (uQ (cn) (uQ (ly) (JV)))) (uQ (uQ (qV) (uQ (fQ) (sD))) (uQ (uQ (DD) (du)) (uQ (dw) (L5)))))) (uQ (uQ (uQ (uQ (Mb) (uQ (vb) (Ly))) (uQ (LK) (uQ (bE) (bM)))) (uQ (uQ (sT) (uQ (rO) ((fun{a n c x s}=>il (a:=a) (n:=n) (c:=c) (x:=x) (s:=s) bE)))) (uQ (uQ (tu) (qa)) (uQ (L6) (JB))))) (uQ (uQ (uQ (tF) (uQ (sx) (J7))) (uQ (J0) (uQ ((fun{a n c x s}=>il (a:=a) (n:=n) (c:=c) (x:=x) (s:=s) tF)) (qD)))) (uQ (uQ (Ll) (uQ (Ej) (KH))) (uQ (uQ (iC) (yY)) (uQ (EH) (LW)))))))) (uQ (uQ (uQ (uQ (uQ (uQ ((fun{a n c x s}=>il (a:=a) (n:=n) (c:=c) (x:=x) (s:=s) iC)) (uQ (ki) (eR))) (uQ (sJ) (uQ (yQ) (bV)))) (uQ (uQ (iq) (uQ (Ma) (KZ))) (uQ ((fun{a n c x s}=>il (a:=a) (n:=n) (c:=c) (x:=x) (s:=s) bV)) (uQ (dz) (dJ))))) (uQ (uQ (uQ (LS) (uQ (J4) (qY))) (uQ (L9) (uQ (Eh) (LO)))) (uQ (uQ (iA) (uQ (ey) (Ew))) (uQ (uQ (Ec) ((fun{a n c x s}=>il (a:=a) (n:=n) (c:=c) (x:=x) (s:=s) iA))) (uQ (fa) (gF)))))) (uQ (uQ (uQ (uQ (Kb) (uQ (JA) (fL))) (uQ (dH) (uQ (nN) (EI)))) (uQ (uQ (NL) (uQ (KK) (Ld))) (uQ (J8) (uQ (cM) (cQ))))) (uQ (uQ (uQ (Kf) (uQ (Kh) ((fun{a n c x s}=>il (a:=a) (n:=n) (c:=c) (x:=x) (s:=s) cM)))) (uQ (Ds) (uQ (Kq) (Ed)))) (uQ (uQ (LU) (uQ (nS) (bW))) (uQ (uQ (lC) (mO)) (uQ (NU) (L4))))))) (uQ (uQ (uQ (uQ (uQ (Kc) (uQ (KM) (Cf))) (uQ (zF) (uQ (Et) (Lu)))) (uQ (uQ (zx) (uQ (IW) (AQ))) (uQ (I7) (uQ (uX) (By))))) (uQ (uQ (uQ (pn) (uQ (HF) (rn))) (uQ (Hh) (uQ (Hu) (Hk)))) (uQ (uQ (zH) (uQ (Jv) (Jj))) (uQ (uQ (Hz) (LG)) (uQ (Jn) (I4)))))) (uQ (uQ (uQ (uQ (GH) (uQ (zC) (Jb))) (uQ (AI) (uQ (IH) (sL)))) (uQ (uQ (pE) (uQ (rp) (Io))) (uQ (uQ (ve) (Gr)) (uQ (Ik) (Ht))))) (uQ (uQ (uQ ((fun{a n c x s}=>il (a:=a) (n:=n) (c:=c) (x:=x) (s:=s) ve)) (uQ (zW) (H7))) (uQ (AZ) (uQ (mT) (Gs)))) (uQ (uQ (HW) (uQ (Iz) ((fun{a n c x s}=>il (a:=a) (n:=n) (c:=c) (x:=x) (s:=s) mT)))) (uQ (uQ (Kt) (Gn)) (uQ (GD) (Jw)))))))))
theorem uT:type_of% uTp.1:=uTp.1
theorem uG {P Q:Prop}(q:Q)(h:Q→P:=by
 intro q
 try(first|refine uS ?_ |refine aa rfl ?_ |refine ad (by simp(disch:=omega) only[uB,uT];exact rfl) ?_)
 try(first|refine uS ?_ |refine aa rfl ?_ |refine ad (by simp(disch:=omega) only[uB,uT];exact rfl) ?_)
 try(first|refine uS ?_ |refine aa rfl ?_ |refine ad (by simp(disch:=omega) only[uB,uT];exact rfl) ?_)
 try(first|refine uS ?_ |refine aa rfl ?_ |refine ad (by simp(disch:=omega) only[uB,uT];exact rfl) ?_)
 try(first|refine uS ?_ |refine aa rfl ?_ |refine ad (by simp(disch:=omega) only[uB,uT];exact rfl) ?_)
 try(first|refine uS ?_ |refine aa rfl ?_ |refine ad (by simp(disch:=omega) only[uB,uT];exact rfl) ?_)
 try(first|refine uS ?_ |refine aa rfl ?_ |refine ad (by simp(disch:=omega) only[uB,uT];exact rfl) ?_)
 try(first|refine uS ?_ |refine aa rfl ?_ |refine ad (by simp(disch:=omega) only[uB,uT];exact rfl) ?_)
 try(first|refine uS ?_ |refine aa rfl ?_ |refine ad (by simp(disch:=omega) only[uB,uT];exact rfl) ?_)
 try(first|refine uS ?_ |refine aa rfl ?_ |refine ad (by simp(disch:=omega) only[uB,uT];exact rfl) ?_)
 try(first|refine uS ?_ |refine aa rfl ?_ |refine ad (by simp(disch:=omega) only[uB,uT];exact rfl) ?_)
 try(first|refine uS ?_ |refine aa rfl ?_ |refine ad (by simp(disch:=omega) only[uB,uT];exact rfl) ?_)
 try(first|refine uS ?_ |refine aa rfl ?_ |refine ad (by simp(disch:=omega) only[uB,uT];exact rfl) ?_)
 try(first|refine uS ?_ |refine aa rfl ?_ |refine ad (by simp(disch:=omega) only[uB,uT];exact rfl) ?_)
 try(first|refine uS ?_ |refine aa rfl ?_ |refine ad (by simp(disch:=omega) only[uB,uT];exact rfl) ?_)
 try(first|refine uS ?_ |refine aa rfl ?_ |refine ad (by simp(disch:=omega) only[uB,uT];exact rfl) ?_)
 try(first|refine uS ?_ |refine aa rfl ?_ |refine ad (by simp(disch:=omega) only[uB,uT];exact rfl) ?_)
 try(first|refine uS ?_ |refine aa rfl ?_ |refine ad (by simp(disch:=omega) only[uB,uT];exact rfl) ?_)
 try(first|refine uS ?_ |refine aa rfl ?_ |refine ad (by simp(disch:=omega) only[uB,uT];exact rfl) ?_)
 try(first|refine uS ?_ |refine aa rfl ?_ |refine ad (by simp(disch:=omega) only[uB,uT];exact rfl) ?_)
 try(first|refine uS ?_ |refine aa rfl ?_ |refine ad (by simp(disch:=omega) only[uB,uT];exact rfl) ?_)
 try(first|refine uS ?_ |refine aa rfl ?_ |refine ad (by simp(disch:=omega) only[uB,uT];exact rfl) ?_)
 try(first|refine uS ?_ |refine aa rfl ?_ |refine ad (by simp(disch:=omega) only[uB,uT];exact rfl) ?_)
 try(first|refine uS ?_ |refine aa rfl ?_ |refine ad (by simp(disch:=omega) only[uB,uT];exact rfl) ?_)
 try(first|refine uS ?_ |refine aa rfl ?_ |refine ad (by simp(disch:=omega) only[uB,uT];exact rfl) ?_)
 try(first|refine uS ?_ |refine aa rfl ?_ |refine ad (by simp(disch:=omega) only[uB,uT];exact rfl) ?_)
 try(first|refine uS ?_ |refine aa rfl ?_ |refine ad (by simp(disch:=omega) only[uB,uT];exact rfl) ?_)
 try(first|refine uS ?_ |refine aa rfl ?_ |refine ad (by simp(disch:=omega) only[uB,uT];exact rfl) ?_)
 try(first|refine uS ?_ |refine aa rfl ?_ |refine ad (by simp(disch:=omega) only[uB,uT];exact rfl) ?_)
 try(first|refine uS ?_ |refine aa rfl ?_ |refine ad (by simp(disch:=omega) only[uB,uT];exact rfl) ?_)
 exact q):P:=h q
theorem uL {O:bj}{ops:Array Oper}{D:List DE}{Q:cf}{l:List Oper}{L:Sl}{s:St}{r:RO}(q:RK X O ops D Q r)(h:oZ X ops l L s=some r:=by simp(disch:=omega) only[uB,uT];exact rfl):OL X O ops l L D s Q:=bD h q
end Go.Proofs.Ytofohkdkpbigiaa
end
section
namespace Go.Proofs.Ytofohkdkpbigiaa
open Go.Am
set_option maxRecDepth 10000
set_option maxHeartbeats 1000000
set_option linter.unusedSimpArgs false
def pr (p:Str×Str):List AV:=[.str p.1, .str p.2]
section
variable {O:bj}
end
end Go.Proofs.Ytofohkdkpbigiaa
end
section
namespace Go.Am
def Str.pre (s:Str)(i:Nat):Nat:=s.val/256^ (s.len- i)
theorem Str.DC {s:Str}{i j:Nat}(h:i≤j)(hj:j≤s.len):s.pre i=s.pre j/256^ (j- i):=by
 unfold Str.pre
 rw[Nat.div_div_eq_div_mul,←Nat.pow_add,show s.len- j+(j- i)=s.len- i by omega]
theorem Str.C3 {a b:Str}{i j:Nat}(h:i≤j)(ha:j≤a.len)(hb:j≤b.len)(hl:a.pre j≤b.pre j):a.pre i≤b.pre i:=by
 rw[Str.DC h ha,Str.DC h hb]
 exact Nat.div_le_div_right hl
theorem Str.MI {a b:Str}{i j:Nat}(h:i≤j)(ha:j≤a.len)(hb:j≤b.len)(hl:a.pre i<b.pre i):a.pre j<b.pre j:=by
 rcases Nat.lt_or_ge (a.pre j) (b.pre j) with q|q
 ·exact q
 ·have:=Str.C3 h hb ha q;omega
theorem Str.lt_iff {a b:Str}:a.lt b=true↔a.pre (min a.len b.len)<b.pre (min a.len b.len)∨(a.pre (min a.len b.len)=b.pre (min a.len b.len)∧a.len<b.len):=by
 unfold Str.lt Str.pre
 simp only[Bool.or_eq_true,Bool.and_eq_true,Nat.blt_eq,Nat.beq_eq]
theorem Str.lt_trans {a b c:Str}(h:a.lt b=true)(h':b.lt c=true):a.lt c=true:=by
 rw[Str.lt_iff] at h h' ⊢
 have g1:a.pre (min a.len b.len)≤b.pre (min a.len b.len):=by omega
 have g2:b.pre (min b.len c.len)≤c.pre (min b.len c.len):=by omega
 have k1:=Str.C3 (i:=min a.len (min b.len c.len)) (by omega) (by omega) (by omega) g1
 have k2:=Str.C3 (i:=min a.len (min b.len c.len)) (by omega) (by omega) (by omega) g2
 by_cases e:a.pre (min a.len (min b.len c.len))<c.pre (min a.len (min b.len c.len))
 ·exact .inl (Str.MI (by omega) (by omega) (by omega) e)
 ·have e1:a.pre (min a.len (min b.len c.len))=b.pre (min a.len (min b.len c.len)):=by omega
  have e2:b.pre (min a.len (min b.len c.len))=c.pre (min a.len (min b.len c.len)):=by omega
  by_cases q1:a.len≤b.len∧a.len≤c.len
  ·rw[show min a.len (min b.len c.len)=a.len by omega] at e1 e2
   rw[show min a.len b.len=a.len by omega] at h
   rw[show min a.len c.len=a.len by omega]
   refine .inr ⟨e1.trans e2,?_⟩
   rcases Nat.lt_or_ge a.len c.len with q|q
   ·exact q
   ·have hac:a.len=c.len:=by omega
    rw[show min b.len c.len=a.len by omega] at h'
    omega
  ·by_cases q2:b.len≤a.len∧b.len≤c.len
   ·rw[show min a.len (min b.len c.len)=b.len by omega] at e1
    rw[show min a.len b.len=b.len by omega] at h
    omega
   ·rw[show min a.len (min b.len c.len)=c.len by omega] at e2
    rw[show min b.len c.len=c.len by omega] at h'
    omega
theorem Str.lt_irrefl (a:Str):a.lt a=false:=by
 cases h:a.lt a with
 |false=>rfl
 |true=>rw[Str.lt_iff] at h;omega
theorem Str.lt_asymm {a b:Str}(h:a.lt b=true):b.lt a=false:=by
 cases h':b.lt a with
 |false=>rfl
 |true=>have:=Str.lt_trans h h';rw[Str.lt_irrefl] at this;cases this
theorem Str.FX {a b:Str}(h:a.lt b=false)(h':b.lt a=false):a=b:=by
 have g:¬a.lt b=true:=by rw[h];simp
 have g':¬b.lt a=true:=by rw[h'];simp
 rw[Str.lt_iff] at g g'
 rw[Nat.min_comm b.len a.len] at g'
 have hl:a.len=b.len:=by omega
 have hv:a.pre (min a.len b.len)=b.pre (min a.len b.len):=by omega
 unfold Str.pre at hv
 rw[show min a.len b.len=a.len by omega,hl,Nat.sub_self,Nat.pow_zero,Nat.div_one,Nat.div_one] at hv
 cases a;cases b;simp at hl hv ⊢;exact⟨hl,hv⟩
theorem Str.ne_of_lt {a b:Str}(h:a.lt b=true):a≠b:=fun e=>by rw[e,Str.lt_irrefl] at h;cases h
theorem Str.total {a b:Str}:a.lt b=true∨a=b∨b.lt a=true:=by
 cases h:a.lt b with
 |true=>exact .inl rfl
 |false=>cases h':b.lt a with
  |true=>exact .inr (.inr rfl)
  |false=>exact .inr (.inl (Str.FX h h'))
end Go.Am
end
section
namespace Go.Proofs.Ytofohkdkpbigiaa
open Go.Am
set_option maxRecDepth 10000
set_option maxHeartbeats 1000000
set_option linter.unusedSimpArgs false
section
variable {O:bj}
theorem za:X.fns.get 90=some Try.f90:=by kernel_rfl
theorem E2:X.fns.get 62=some Try.f62:=by kernel_rfl
theorem tM (ho:O 62=none)(p:Nat→Bool){s:St}{n:Nat}{f:AV}{g:FuncId}{a c:List AV}(hf:f= .func (.func g) a c)(hn:n≤1000000000)
  (hp:∀s' i,Mod No s s'→i<n→Ca X O (.fn g) (a++[.int .i64 (i:Int)]++c) s' fun r=>∃s'',r= .ret (.bool (p i)) s''∧Mod No s' s''):
  Ca X O (.fn 62) [.int .i64 (n:Int),f] s fun r=>∃ (k:Nat) (s':St),r= .ret (.int .i64 (k:Int)) s'∧Mod No s s'∧k≤n∧(0<k→p (k- 1)=false)∧(k<n→p k=true):=by
 subst hf
 refine bb ho E2 rfl ?_
 unfold aD aD aD
 refine uG ?_
 let I:Nat×Nat→Sl→St→Prop:=fun ij L s'=>Mod No s s'∧ij.1≤ij.2∧ij.2≤n∧(0<ij.1→p (ij.1- 1)=false)∧(ij.2<n→p ij.2=true)∧L=[(1, .func (.func g) a c),(5, .int .i64 (ij.1:Int)),(6, .int .i64 (ij.2:Int))]
 refine WL.less (M:=[(1, .func (.func g) a c),(5, .int .i64 ((0:Nat):Int)),(6, .int .i64 (n:Int))]) ?_ rfl
 refine aV I (fun ij=>ij.2- ij.1) ?_ n (0,n) _ s (by simp) ⟨Mod.refl _ _,by simp,Nat.le_refl _,fun h=>absurd h (by simp),fun h=>absurd h (by simp),rfl⟩
 rintro⟨i,j⟩ L s' ⟨hm,hij,hj,h1,h2,rfl⟩
 simp only at hij hj h1 h2 ⊢
 refine uG ?_
 refine uJ [1,5,6,11] ?_
 refine ae rfl rfl (fun hc=>?_) (fun hc=>?_)
 ·simp at hc
  have hm2:((i:Int)+(j:Int))/2=(((i+j)/2:Nat):Int):=by omega
  have hb:(((i+j)/2:Nat):Int)<n:=by omega
  repeat(first|refine uS ?_ |refine aa rfl ?_ |refine ad (by simp(disch:=omega) only[uB,uT,Ms aN zH,Ms zH aN,hm2];exact rfl) ?_)
  refine aj (hp s' ((i+j)/2) hm (by omega)) ?_ ?_
  ·rintro v s2 ⟨s3,e,hm3⟩
   cases e
   have hm3:=hm.trans hm3 (fun _ _ h=>h)
   refine uL ?_
   refine uH ?_
   refine uJ [1,5,6,7,21] ?_
   refine ae rfl rfl (fun hc=>?_) (fun hc=>?_)
   ·simp at hc
    refine uG ?_
    refine aH ((i+j)/2+1,j) [(1, .func (.func g) a c),(5, .int .i64 (((i+j)/2+1:Nat):Int)),(6, .int .i64 (j:Int))] ⟨hm3,by simp only;omega,hj,fun _=>by simpa using hc,h2,rfl⟩ (by simp only;omega) (by simp[aI,az])
   ·simp at hc
    refine uG ?_
    refine aH (i,(i+j)/2) [(1, .func (.func g) a c),(5, .int .i64 (i:Int)),(6, .int .i64 (((i+j)/2:Nat):Int))] ⟨hm3,by simp only;omega,by simp only;omega,h1,fun _=>hc,rfl⟩ (by simp only;omega) (by simp[aI,az])
  ·(intro v s' h;simp at h)
 ·simp at hc
  obtain rfl:i=j:=by omega
  refine uG ?_
  refine ai rfl ?_
  exact⟨i,s',rfl,hm,hj,h1,h2⟩
theorem mh (ho:O 90=none){s:St}{v:AV}{p:List (Str×Str)}(h:Sli s v 2 (p.map pr))(hl:p.length≤1000000):
  Ca X O (.fn 90) [v] s fun r=>∃u s',r= .ret u s'∧Sli s' u 2 (p.map pr)∧Mod No s s'∧∀b,blk u=some b→s.nx≤b∧b<s'.nx:=by
 refine bb ho za rfl ?_
 unfold aD aD
 obtain⟨a,c,x,rfl,g⟩:=h.ex
 by_cases hp:p=[]
 ·subst hp
  cases a with
  |none=>
   repeat(first|refine uS ?_ |refine aa rfl ?_ |refine ad (by simp(disch:=omega) only[uB,uT,Option.isNone_none];exact rfl) ?_)
   refine uJ [0,4] ?_
   refine ae rfl rfl (fun hc=>?_) (fun hc=>?_)
   ·refine uG ?_
    refine ai rfl ?_
    exact⟨_,_,rfl,⟨none,0,true,rfl,fun h=>absurd rfl h⟩,Mod.refl _ _,fun b hb=>by cases hb⟩
   ·cases hc
  |some q=>
   obtain⟨b,off,es⟩:=q
   repeat(first|refine uS ?_ |refine aa rfl ?_ |refine ad (by simp(disch:=omega) only[uB,uT,MA bE];exact rfl) ?_)
   refine uJ [0,4] ?_
   refine ae rfl rfl (fun hc=>?_) (fun hc=>?_)
   ·cases hc
   ·have h0:∀s',aZ s' 2 (.slc (some (b,off,es)) 0 c x)=some (0,[]):=fun s'=>rfl
    repeat(first|refine uS ?_ |refine aa rfl ?_ |refine ad (by simp(disch:=omega) only[uB,uT,Gx bE bW lC rfl (by decide),fM bE (.inl rfl),vv bE mO (h0 _),List.length_nil];exact rfl) ?_)
    refine ai rfl ?_
    exact⟨_,_,rfl,⟨_,_,_,rfl,fun h=>absurd rfl h⟩,(Mod.refl _ _).new _,fun b hb=>by cases hb;exact⟨Nat.le_refl _,Nat.lt_succ_self _⟩⟩
 ·obtain⟨b,off,t,n,rfl,k1,k2,k3⟩:=g (by simpa using hp)
  have hne:p.map pr≠[]:=by simpa using hp
  have hacc:Acc {s with h:=s.h.put s.nx (.cells (Tr.of []) 0),nx:=s.nx+1} (.slc (some (s.nx,0,2)) 0 0 true) 2 []:=
   ⟨.inr ⟨s.nx,true,Tr.of [],rfl,Nat.lt_succ_self _,⟨0,bm⟩,rfl⟩,fun _ h=>by simp at h⟩
  have hm1:Mod No s {s with h:=s.h.put s.nx (.cells (Tr.of []) 0),nx:=s.nx+1}:=(Mod.refl _ _).new _
  have hsrc:=(h.mod hm1 (fun _ _ h=>h)).src
  have hall:aX (p.map pr).flatten=true:=tU fun r hr=>by
   obtain⟨q,_,rfl⟩:=List.mem_map.mp hr;rfl
  obtain⟨u,s',e1,e2,e3,e4⟩:=gG bE mO hacc hsrc (fun r hr=>by obtain⟨q,_,rfl⟩:=List.mem_map.mp hr;rfl) hne hall (by simpa using hl)
  repeat(first|refine uS ?_ |refine aa rfl ?_ |refine ad (by simp(disch:=omega) only[uB,uT,MA bE];exact rfl) ?_)
  refine uJ [0,4] ?_
  refine ae rfl rfl (fun hc=>?_) (fun hc=>?_)
  ·cases hc
  ·repeat(first|refine uS ?_ |refine aa rfl ?_ |refine ad (by simp(disch:=omega) only[uB,uT,Gx bE bW lC rfl (by decide),fM bE (.inl rfl),e1];exact rfl) ?_)
   refine ai rfl ?_
   refine⟨u,s',rfl,by simpa using e2.sli,hm1.trans e3 (fun c hc h=>?_),fun c hc=>?_⟩
   ·simp[blk] at h;omega
   ·have:=e2.lt hc;rw[e4] at hc;simp at hc;omega
end
end Go.Proofs.Ytofohkdkpbigiaa
end
