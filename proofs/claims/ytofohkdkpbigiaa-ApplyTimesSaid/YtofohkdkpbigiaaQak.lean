/-
  A part of the texts.
-/
import Derived.Test.YtofohkdkpbigiaaQaj
section
namespace Go.Am
section
variable {X:Ctx}{O:bk}
def CW (X:Ctx)(O:bk)(f:FuncId)(args:List AV)(s:St)(Q:CR→Prop):Prop:=∃n r,dy X (ev X O n) f args s=some r∧Q r
theorem CW.mono {f:FuncId}{args:List AV}{s:St}{Q R:CR→Prop}(h:CW X O f args s Q)(hQ:∀r,Q r→R r):CW X O f args s R:=let⟨n,r,h1,h2⟩:=h;⟨n,r,h1,hQ r h2⟩
noncomputable def xd:List DE→St→Option St
 |[],s=>some s
 | .mark b::ds,s=>match tv b s (s.h.get b) with
  |some s=>xd ds s
  |none=>none
 | .fn _::_,_=>none
def Kq (X:Ctx)(fn:Func)(Q:CR→Prop):bV:=fun x fr s=>match x with
 | .norm=>∃s',xd fr.d s=some s'∧∃l,uu X fr s' fn.results.toList=some l∧Q (.ret (eX l) s')
 | .ret=>∃s',xd fr.d s=some s'∧∃l,uu X fr s' fn.results.toList=some l∧Q (.ret (eX l) s')
 | .pan v=>∃s',xd fr.d s=some s'∧Q (.pan v s')
 | .brk _=>False
theorem ov {e:Ev}{fn:Func}{fr:Fr}{m:DM}:∀ {ds:List DE} {s s':St},xd ds s=some s'→leave X e fn fr ds m s=leave X e fn fr [] m s'
 |[],s,s',h=>by cases h;rfl
 | .mark b::ds,s,s',h=>by
  simp only[xd] at h
  simp only[leave]
  cases hu:tv b s (s.h.get b) with
  |none=>rw[hu] at h;cases h
  |some s1=>rw[hu] at h;exact ov h
 | .fn _::_,_,_,h=>by cases h
theorem Hd {f:FuncId}{fn:Func}{c:Code}{args:List AV}{s:St}{Q:CR→Prop}(hf:X.fns.get f=some fn)(hc:fn.body=some c)(h:WL X O c (aB args 0) [] s (Kq X fn Q)):CW X O f args s Q:=by
 obtain⟨n,x,fr,s',h1,h2⟩:=h _ (nV args)
 have e:∀r,rB X (ev X O n) fn (some (x,fr,s'))=some r→dy X (ev X O n) f args s=some r:=fun r hr=>by
  unfold dy
  rw[hf]
  simp only[hc]
  rw[h1];exact hr
 cases x with
 |norm=>obtain⟨s2,h3,l,h4,h5⟩:=h2;exact⟨n,_,e _ (by show leave X _ fn fr fr.d .ret s'=_;rw[ov h3];exact nc h4),h5⟩
 |ret=>obtain⟨s2,h3,l,h4,h5⟩:=h2;exact⟨n,_,e _ (by show leave X _ fn fr fr.d .ret s'=_;rw[ov h3];exact nc h4),h5⟩
 |pan v=>obtain⟨s2,h3,h4⟩:=h2;exact⟨n,_,e (.pan v s2) (by show leave X _ fn fr fr.d (.pan v) s'=_;rw[ov h3];rfl),h4⟩
 |brk i=>exact h2.elim
theorem OA {f:FuncId}{args:List AV}{s:St}{Q:CR→Prop}(ho:O f=none)(h:CW X O f args s Q):Ca X O (.fn f) args s Q:=by
 obtain⟨n,r,h1,h2⟩:=h
 refine⟨n,r,?_,h2⟩
 show fF X O (ev X O n) f args s=_
 unfold fF
 rw[ho]
 exact h1
theorem LQ {fn:Func}{Q:CR→Prop}:∀x fr s,tC X fn Q x fr s→Kq X fn Q x fr s:=by
 intro x fr s h
 cases x with
 |norm=>obtain⟨h1,l,h2,h3⟩:=h;exact⟨s,by rw[h1];rfl,l,h2,h3⟩
 |ret=>obtain⟨h1,l,h2,h3⟩:=h;exact⟨s,by rw[h1];rfl,l,h2,h3⟩
 |pan v=>obtain⟨h1,h2⟩:=h;exact⟨s,by rw[h1];rfl,h2⟩
 |brk i=>exact h
theorem PB {f:FuncId}{fn:Func}{c:Code}{args:List AV}{s:St}{Q:CR→Prop}(hf:X.fns.get f=some fn)(hc:fn.body=some c)(h:WL X O c (aB args 0) [] s (tC X fn Q)):CW X O f args s Q:=
 Hd hf hc (h.mono LQ)
theorem IC {fn:Func}{L:Sl}{D:List DE}{s s':St}{Q:CR→Prop}{l:List AV}(hu:xd D s=some s')(h:ir X L s' fn.results.toList=some l)(hQ:Q (.ret (eX l) s')):Fin (Kq X fn Q) .ret L D s:=fun _ ht=>⟨s',hu,l,fY ht h,hQ⟩
def NS (X:Ctx)(O:bk)(t:Tr AV)(b0:Nat)(D:List DE)(Q:bV):CR→Prop
 | .ret _ s'=>(∃t' ps QE bd,s'.h.get (b0+1)=some (.loop t' ps QE bd .ready)∧Q .norm ⟨t, .mark b0::D⟩ {s' with h:=s'.h.del (b0+1)})∨
  ∃t' ps QE bd c,s'.h.get (b0+1)=some (.loop t' ps QE bd (.done c))∧vY c=true∧W X O c ⟨t, .mark b0::D⟩ {s' with h:=s'.h.del (b0+1)} Q
 | .pan v s'=>Q (.pan v) ⟨t, .mark b0::D⟩ s'
theorem GI {g:Operand}{ps:Array Nat}{QE bd:Code}{L:Sl}{D:List DE}{s:St}{Q:bV}{f:FuncId}{first cap:List AV}(hk:knO L g=true)(hg:gL L g= .func (.func f) first cap)
  (h:∀t,cR t L→CW X O f (first++(.yld (s.nx+1)::cap)) {s with h:=(s.h.put s.nx .dfr).put (s.nx+1) (.loop t ps.toList QE bd .ready),nx:=s.nx+1+1} (NS X O t s.nx D Q)):WL X O (.rangeFunc g ps QE bd) L D s Q:=by
 intro t ht
 obtain⟨n,r,h1,h2⟩:=h t ht
 have e0:(⟨t,D⟩:Fr).opd g= .func (.func f) first cap:=(pJ (fr:=⟨t,D⟩) ht hk).trans hg
 have e1:∀m,ph X O (ev X O m) (.rangeFunc g ps QE bd) ⟨t,D⟩ s=tE (ev X O m) ⟨t,D⟩ s.nx (s.nx+1) (dy X (ev X O m) f (first++(.yld (s.nx+1)::cap)) {s with h:=(s.h.put s.nx .dfr).put (s.nx+1) (.loop t ps.toList QE bd .ready),nx:=s.nx+1+1}):=fun m=>by
  show om X (ev X O m) ps.toList QE bd ⟨t,D⟩ s ((⟨t,D⟩:Fr).opd g)=_
  rw[e0]
  show rp X (ev X O m) f first cap ⟨t,D⟩ s.nx (s.nx+1) _=_
  unfold rp
  simp only[mz,oF]
  rfl
 cases r with
 |pan v s'=>exact mR ⟨n, .pan v,⟨t, .mark s.nx::D⟩,s',by rw[e1,h1];rfl,h2⟩
 |ret v s'=>
  rcases h2 with⟨t',ps',QF,bd',g1,g2⟩|⟨t',ps',QF,bd',c,g1,g2,m,x,fr,s2,g3,g4⟩
  ·refine mR ⟨n, .norm,⟨t, .mark s.nx::D⟩,_,?_,g2⟩
   rw[e1,h1]
   show pV _ _ _ _ s' (s'.h.get (s.nx+1))=_
   rw[g1];rfl
  ·refine mR ⟨max n m,x,fr,s2,?_,g4⟩
   rw[e1,oU (kj (Nat.le_max_left n m)) _ _ _ _ h1]
   show pV _ _ _ _ s' (s'.h.get (s.nx+1))=_
   rw[g1]
   simp only[pV,g2]
   exact kj (Nat.le_max_right n m) _ _ _ _ g3
def EU:List Nat→List AV→Sl→Sl
 |p::ps,v::vs,L=>EU ps vs ((p,v)::L)
 | _,_,L=>L
theorem rC:∀ {ps:List Nat} {vs:List AV} {t:Tr AV} {L:Sl},ps.length=vs.length→cR t L→∃t',jx ps vs t=some t'∧cR t' (EU ps vs L)
 |[],[],t,L,_,h=>⟨t,rfl,h⟩
 |[],_::_,_,_,h,_=>by simp at h
 | _::_,[],_,_,h,_=>by simp at h
 |p::ps,v::vs,t,L,hl,h=>by
  obtain⟨t',h1,h2⟩:=rC (ps:=ps) (vs:=vs) (by simpa using hl) (h.put p v)
  exact⟨t',by simp only[jx,ki];exact h1,h2⟩
def Kj (b:Nat)(t:Tr AV)(ps:List Nat)(QE bd:Code)(Q:CR→Prop):bV:=fun x fr s=>s.h.get b=some (.loop t ps QE bd .busy)∧match x with
 | .norm=>Q (.ret (.bool true) {s with h:=s.h.put b (.loop t ps QE bd .ready)})
 | .ret=>Q (.ret (.bool false) {s with h:=s.h.put b (.loop t ps QE bd (.done .ret))})
 | .brk i=>Q (.ret (.bool false) {s with h:=s.h.put b (.loop t ps QE bd (.done (.exit i)))})
 | .pan v=>fr.d=[]∧Q (.pan v s)
def AsK (X:Ctx)(O:bk)(b:Nat)(t:Tr AV)(ps:List Nat)(QE bd:Code)(Q:CR→Prop):bV:=fun x fr s=>x= .norm∧s.h.get b=some (.loop t ps QE bd .ready)∧W X O bd fr {s with h:=s.h.put b (.loop t ps QE bd .busy)} (Kj b t ps QE bd Q)
theorem MV {b:Nat}{t:Tr AV}{ps:List Nat}{QE bd:Code}{Q:CR→Prop}{L:Sl}{s:St}(hb:s.h.get b=some (.loop t ps QE bd .ready))(h:WL X O bd L [] {s with h:=s.h.put b (.loop t ps QE bd .busy)} (Kj b t ps QE bd Q)):Fin (AsK X O b t ps QE bd Q) .norm L [] s:=fun t' ht=>⟨rfl,hb,h t' ht⟩
theorem MJ {b:Nat}{args:List AV}{s:St}{t:Tr AV}{ps:List Nat}{QE bd:Code}{Q:CR→Prop}{L:Sl}(hb:s.h.get b=some (.loop t ps QE bd .ready))(hL:cR t L)(hz:ps.length=args.length)(h:WL X O QE (EU ps args L) [] s (AsK X O b t ps QE bd Q)):Ca X O (.rnd b) args s Q:=by
 obtain⟨t',h1,h2⟩:=rC hz hL
 obtain⟨n,x,fr,s1,h3,rfl,h5,m,x2,fr2,s2,h6,h7,h8⟩:=h t' h2
 have e:∀r,wH b x2 fr2.d s2 (some (.loop t ps QE bd .busy))=some r→cn X O (ev X O (max n m)) (.rnd b) args s=some r:=fun r hr=>by
  show mw (ev X O (max n m)) b args s=_
  unfold mw Dy
  rw[hb]
  show xR _ b QE bd s (jx ps args t)=_
  rw[h1]
  show nE _ b bd (ev X O (max n m) QE ⟨t',[]⟩ s)=_
  rw[kj (Nat.le_max_left n m) _ _ _ _ h3]
  show pL _ b bd fr s1 (s1.h.get b)=_
  rw[h5]
  show rk b (ev X O (max n m) bd fr {s1 with h:=s1.h.put b (.loop t ps QE bd .busy)})=_
  rw[kj (Nat.le_max_right n m) _ _ _ _ h6]
  show wH b x2 fr2.d s2 (s2.h.get b)=_
  rw[h7];exact hr
 cases x2 with
 |norm=>exact⟨max n m,_,e _ rfl,h8⟩
 |ret=>exact⟨max n m,_,e _ rfl,h8⟩
 |brk i=>exact⟨max n m,_,e _ rfl,h8⟩
 |pan v=>exact⟨max n m,_,e _ (by simp only[wH,h8.1];rfl),h8.2⟩
theorem Fq {tt t':Tr AV}{b0:Nat}{D:List DE}{Q:bV}{L:Sl}{v:AV}{s':St}{ps:List Nat}{QE bd:Code}(ht:cR tt L)(hl:s'.h.get (b0+1)=some (.loop t' ps QE bd .ready))(h:Fin Q .norm L (.mark b0::D) {s' with h:=s'.h.del (b0+1)}):NS X O tt b0 D Q (.ret v s'):= .inl ⟨_,_,_,_,hl,h tt ht⟩
theorem E5 {tt t':Tr AV}{b0:Nat}{D:List DE}{Q:bV}{L:Sl}{v:AV}{s':St}{ps:List Nat}{QE bd c:Code}(ht:cR tt L)(hl:s'.h.get (b0+1)=some (.loop t' ps QE bd (.done c)))(hj:vY c=true)(h:WL X O c L (.mark b0::D) {s' with h:=s'.h.del (b0+1)} Q):NS X O tt b0 D Q (.ret v s'):= .inr ⟨_,_,_,_,_,hl,hj,h tt ht⟩
theorem zo {b:Nat}{t:Tr AV}{ps:List Nat}{QE bd:Code}{Q:CR→Prop}{L:Sl}{D:List DE}{s:St}(hb:s.h.get b=some (.loop t ps QE bd .busy))(h:Q (.ret (.bool true) {s with h:=s.h.put b (.loop t ps QE bd .ready)})):Fin (Kj b t ps QE bd Q) .norm L D s:=fun _ _=>⟨hb,h⟩
theorem BF {b:Nat}{t:Tr AV}{ps:List Nat}{QE bd:Code}{Q:CR→Prop}{L:Sl}{D:List DE}{s:St}(hb:s.h.get b=some (.loop t ps QE bd .busy))(h:Q (.ret (.bool false) {s with h:=s.h.put b (.loop t ps QE bd (.done .ret))})):Fin (Kj b t ps QE bd Q) .ret L D s:=fun _ _=>⟨hb,h⟩
def Cell (s:St)(b:Nat)(v:AV):Prop:=∃c,s.h.get b=some (.cells c 1)∧c.get 0=some v
theorem Cell.put {s:St}{b b':Nat}{v:AV}{x:AB}(h:Cell s b v)(hn:b≠b'):Cell {s with h:=s.h.put b' x} b v:=let⟨c,h1,h2⟩:=h;⟨c,(aS hn).trans h1,h2⟩
theorem Cell.del {s:St}{b b':Nat}{v:AV}(h:Cell s b v)(hn:b≠b'):Cell {s with h:=s.h.del b'} b v:=let⟨c,h1,h2⟩:=h;⟨c,(jP hn).trans h1,h2⟩
theorem Cell.new {s:St}{b:Nat}{v:AV}{x:AB}(h:Cell s b v)(hn:b≠s.nx):Cell {s with h:=s.h.put s.nx x,nx:=s.nx+1} b v:=let⟨c,h1,h2⟩:=h;⟨c,(aS hn).trans h1,h2⟩
theorem Cell.load {s:St}{b:Nat}{v:AV}{t:TypeId}{d:TypeDesc}(h:Cell s b v)(hu:X.und t=some d)(hd:mL d=false)(hn:X.size t=some 1):aO X t (.ptr (some (b,0))) s=some (.old v):=let⟨_,h1,h2⟩:=h;aj hu hd hn h1 h2
theorem Cell.store {s:St}{b:Nat}{v w:AV}{t:TypeId}(h:Cell s b v)(hn:X.size t=some 1)(hw:w.cells=[w])(ho:aX [w]=true):
  ∃x,cF X t (.ptr (some (b,0))) w s=some (.val (.tup []) {s with h:=s.h.put b x})∧Cell {s with h:=s.h.put b x} b w:=by
 obtain⟨c,h1,h2⟩:=h
 have hs:stL [w] 0 c=some (c.put 0 w):=by simp only[stL,h2,sP,ki]
 exact⟨.cells (c.put 0 w) 1,eS hn h1 (by rw[hw];rfl) (by rw[hw];exact ho) (by rw[hw];exact hs),_,bu,by rw[Tr.cT,if_pos rfl]⟩
theorem Mod.del {B:Nat→Prop}{s t:St}(h:Mod B s t){b:Nat}(hb:s.nx≤b):Mod B s {t with h:=t.h.del b}:=
 ⟨h.nx,fun c hc hn=>(jP (by omega)).trans (h.old c hc hn),h.gl,fun ht c hc=>by
  show(t.h.del b).get c=none
  cases hx:(t.h.del b).get c with
  |none=>rfl
  |some x=>
   have:=(Tr.gz hx).2
   rw[h.tidy ht c hc] at this;cases this⟩
theorem CW.st {f:FuncId}{args:List AV}{s:St}{Q:CR→Prop}(P:St→Prop)(h:P s)(hW:∀s',P s'→CW X O f args s' Q):CW X O f args s Q:=hW s h
theorem Acc.back {s t:St}{v:AV}{es:Nat}{rows:List (List AV)}(h:Acc t v es rows)(hm:Mod No s t)(hb:∀b,blk v=some b→b<s.nx):Acc s v es rows:=by
 refine⟨?_,h.len⟩
 rcases h.ex with h|⟨b,x,c,rfl,_,⟨f,h2⟩,h3⟩
 ·exact .inl h
 ·have:=hb b rfl
  exact .inr ⟨b,x,c,rfl,this,⟨f,(hm.old b this (fun h=>h)).symm.trans h2⟩,h3⟩
theorem Fin.st {x:EX}{L:Sl}{D:List DE}{s:St}{Q:bV}(P:St→Prop)(h:P s)(hW:∀s',P s'→Fin Q x L D s'):Fin Q x L D s:=hW s h
theorem H8 {t:TypeId}{a v:AV}{s:St}(h:aO X t a s=some (.old v)):loadT X t a s=some v:=by
 unfold aO at h
 cases e:loadT X t a s with
 |none=>rw[e] at h;cases h
 |some u=>rw[e] at h;cases h;rfl
theorem AZ {b:Nat}{s:St}(h:s.h.get b=some .dfr):xd [.mark b] s=some {s with h:=s.h.del b}:=by simp only[xd,h,tv]
theorem fj {L:Sl}{s:St}{a:Nat}{t:TypeId}{p v:AV}(hk:lk L a=some p)(hl:aO X t p s=some (.old v)):rJ X L s (.cell a t)=some v:=by
 simp only[rJ,knO,gL,hk];exact H8 hl
theorem yD {fn:Func}{a1 a2:Nat}{t1 t2:TypeId}{L:Sl}{D:List DE}{s s':St}{Q:CR→Prop}{p1 p2 v1 v2:AV}(hr:fn.results.toList=[.cell a1 t1, .cell a2 t2])(hu:xd D s=some s')(k1:lk L a1=some p1)(k2:lk L a2=some p2)(l1:aO X t1 p1 s'=some (.old v1))(l2:aO X t2 p2 s'=some (.old v2))(hQ:Q (.ret (.tup [v1,v2]) s')):Fin (Kq X fn Q) .ret L D s:=
 IC (l:=[v1,v2]) hu (by rw[hr];simp only[ir,fj k1 l1,fj k2 l2]) hQ
end
end Go.Am
end
section
namespace Go.Am
section
variable {X:Ctx}{ops:Array Oper}{i:Nat}{o:Oper}{rest:Ix}{rem:List Nat}{pend:List bt}{L:Sl}{s s':St}{v:AV}{k:List bt→Sl→St→Option RX}
noncomputable def rxK (X:Ctx)(ops:Array Oper)(i:Nat)(o:Oper)(rest:Ix)(pend:List bt)(L:Sl)(s:St):Bool→Option RX
 |false=>none
 |true=>qj i o pend L s (ic X ops rest) (opG X o.op (gL L) s)
noncomputable def rxT (X:Ctx)(ops:Array Oper)(i:Nat)(o:Oper)(rest:Ix)(pend:List bt)(L:Sl)(s:St):Option Bool→Option RX
 |none=>none
 |some false=>ic X ops rest (⟨i,o, .tup [],none⟩::pend) (bL o.dst (.tup []) L) s
 |some true=>rxK X ops i o rest pend L s (dO L o.op)
noncomputable def MN (X:Ctx)(ops:Array Oper)(i:Nat)(rest:Ix)(pend:List bt)(L:Sl)(s:St):Option Oper→Option RX
 |none=>none
 |some o=>rxT X ops i o rest pend L s (dA ops L o)
noncomputable def rxB (X:Ctx)(ops:Array Oper)(o:Oper)(rem:List Nat)(rest:Ix)(pend:List bt)(L:Sl)(s:St):Bool→Option RX
 |false=>none
 |true=>Bj X ops o rem pend rest L s (ic X ops rest) (opG X o.op (gL L) s)
noncomputable def rxP (X:Ctx)(ops:Array Oper)(o:Oper)(rem:List Nat)(rest:Ix)(pend:List bt)(L:Sl)(s:St):Bool→Option RX
 |true=>iL X ops rem pend (bL o.dst (.tup []) L) s (ic X ops rest)
 |false=>none
noncomputable def rxA (X:Ctx)(ops:Array Oper)(o:Oper)(rem:List Nat)(rest:Ix)(pend:List bt)(L:Sl)(s:St):Option Bool→Option RX
 |none=>none
 |some false=>rxP X ops o rem rest pend L s (aQ X L o)
 |some true=>rxB X ops o rem rest pend L s (dO L o.op)
noncomputable def NW (X:Ctx)(ops:Array Oper)(rem:List Nat)(rest:Ix)(pend:List bt)(L:Sl)(s:St):Option Oper→Option RX
 |none=>none
 |some o=>rxA X ops o rem rest pend L s (dA ops L o)
theorem MD:ic X ops [] pend L s=some (.fin L s):=rfl
theorem Lu:ic X ops ((i,none)::rest) pend L s=MN X ops i rest pend L s (ops.toList[i]?):=by
 conv=>lhs;unfold ic
 unfold MN rxT rxK
 cases ops.toList[i]? with
 |none=>rfl
 |some o=>
  simp only
  cases dA ops L o with
  |none=>rfl
  |some b=>
   cases b with
   |false=>rfl
   |true=>simp only;cases dO L o.op<;>rfl
theorem Nt:ic X ops ((i,some rem)::rest) pend L s=NW X ops rem rest pend L s (ops.toList[i]?):=by
 conv=>lhs;unfold ic
 unfold NW rxA rxB rxP
 cases ops.toList[i]? with
 |none=>rfl
 |some o=>
  simp only
  cases dA ops L o with
  |none=>rfl
  |some b=>
   cases b with
   |false=>simp only;cases aQ X L o<;>rfl
   |true=>simp only;cases dO L o.op<;>rfl
theorem Mz:MN X ops i rest pend L s (some o)=rxT X ops i o rest pend L s (dA ops L o):=rfl
theorem NY:rxT X ops i o rest pend L s (some true)=rxK X ops i o rest pend L s (dO L o.op):=rfl
theorem Oy:rxT X ops i o rest pend L s (some false)=ic X ops rest (⟨i,o, .tup [],none⟩::pend) (bL o.dst (.tup []) L) s:=rfl
theorem Pg:rxK X ops i o rest pend L s true=qj i o pend L s (ic X ops rest) (opG X o.op (gL L) s):=rfl
theorem NO:NW X ops rem rest pend L s (some o)=rxA X ops o rem rest pend L s (dA ops L o):=rfl
theorem Oe:rxA X ops o rem rest pend L s (some true)=rxB X ops o rem rest pend L s (dO L o.op):=rfl
theorem OC:rxA X ops o rem rest pend L s (some false)=rxP X ops o rem rest pend L s (aQ X L o):=rfl
theorem Pv:rxB X ops o rem rest pend L s true=Bj X ops o rem pend rest L s (ic X ops rest) (opG X o.op (gL L) s):=rfl
theorem N7:rxP X ops o rem rest pend L s true=iL X ops rem pend (bL o.dst (.tup []) L) s (ic X ops rest):=rfl
theorem Nf:qj i o pend L s k (some (.old v))=k (⟨i,o,v,none⟩::pend) (bL o.dst v L) s:=rfl
theorem KK:qj i o pend L s k (some (.pure v))=k (⟨i,o,v,none⟩::pend) (bL o.dst v L) s:=rfl
theorem MS {x:AB}(h:s.h.get s.nx=none)(h':s'.h.get s.nx=some x):qj i o pend L s k (some (.val v s'))=k (⟨i,o,v,some (s.nx,x)⟩::pend) (bL o.dst v L) s':=by simp only[qj,h,h']
theorem MC:Bj X ops o rem pend rest L s k (some (.old v))=iL X ops rem pend (bL o.dst v L) s k:=rfl
theorem J2:Bj X ops o rem pend rest L s k (some (.pure v))=iL X ops rem pend (bL o.dst v L) s k:=rfl
theorem NH:Bj X ops o rem pend rest L s k (some (.val v s'))=iL X ops rem pend (bL o.dst v L) s' k:=rfl
theorem Lw {f:FuncId}{args:List AV}:Bj X ops o rem pend rest L s k (some (.call f args))=some (.call o.dst rem (.fn f) args pend rest L s):=rfl
theorem NT:Bj X ops o rem pend rest L s k (some (.pan v))=some (.pan v s):=rfl
def w7 (rem:List Nat)(pend:List bt):List bt:=pend.filter fun p=>du p.i rem
def kpS (p:bt)(l:List bt):Bool→List bt
 |true=>p::l
 |false=>l
theorem Ni:w7 rem []=[]:=rfl
theorem L0 {la:Option (Nat×AB)}:w7 rem (⟨i,o,v,la⟩::pend)=kpS ⟨i,o,v,la⟩ (w7 rem pend) (du i rem):=by
 unfold w7 kpS;rw[List.filter_cons];cases du i rem<;>rfl
theorem N0 {p:bt}:kpS p pend true=p::pend:=rfl
theorem Od {p:bt}:kpS p pend false=pend:=rfl
noncomputable def cxS (p:List bt)(L:Sl)(s:St)(k:List bt→Sl→St→Option RX):Bool→Option RX
 |true=>k p L s
 |false=>none
theorem Nj:iL X ops [] pend L s k=k [] L s:=rfl
theorem LG {j:Nat}:iL X ops (j::rem) pend L s k=cxS (w7 (j::rem) pend) L s k ((w7 (j::rem) pend).all (aC X ops L s)):=by
 unfold iL qg cxS w7
 simp only
 cases hq:((pend.filter fun p=>du p.i (j::rem)).all (aC X ops L s))<;>simp only
theorem Pr {p:List bt}:cxS p L s k true=k p L s:=rfl
theorem MO {p:List Nat}:jV [] p=[]:=rfl
theorem Qd {l:Iy}{p:List Nat}:jV ((i,none)::l) p=(i,none)::jV l (i::p):=rfl
theorem Qk {l:Iy}{p:List Nat}{m:List Bool}:jV ((i,some m)::l) p=(i,some (mask m p))::jV l (mask m p):=rfl
theorem Ql {α:Type}{m:List Bool}{p:α}{l:List α}:mask (true::m) (p::l)=p::mask m l:=rfl
theorem P1 {α:Type}{m:List Bool}{p:α}{l:List α}:mask (false::m) (p::l)=mask m l:=rfl
theorem Qj {α:Type}{l:List α}:mask [] l=[]:=by cases l<;>rfl
variable {O:bk}
theorem cH {D:List DE}{Q:bV}{dst:Option Nat}{t:Tgt}{args:List AV}{K:CR→Prop}(h:Ca X O t args s K)(hr:∀v s',K (.ret v s')→∃r,iL X ops rem pend (bL dst v L) s' (ic X ops rest)=some r∧RKX X O ops D Q r)(hp:∀v s',K (.pan v s')→Fin Q (.pan v) [] D s'):RKX X O ops D Q (.call dst rem t args pend rest L s):=
 Iv h (fun v s' hk=>by
  obtain⟨r,h1,h2⟩:=hr v s' hk
  unfold iL at h1
  cases hl:qg X ops rem pend (bL dst v L) s' with
  |none=>rw[hl] at h1;cases h1
  |some p=>rw[hl] at h1;exact⟨p,rfl,Mp h1 h2⟩) hp
end
end Go.Am
end
section
namespace Go.Am
structure Bx (s:St)(b:Nat)(l:List AV):Prop where
 ex:∃c n,s.h.get b=some (.cells c n)∧∀i u,l[i]? =some u→c.get i=some u
 lt:b<s.nx
theorem Bx.mod {B:Nat→Prop}{s t:St}{b:Nat}{l:List AV}(h:Bx s b l)(hm:Mod B s t)(hb:¬B b):Bx t b l:=
 let⟨c,n,h1,h2⟩:=h.ex;⟨⟨c,n,(hm.old _ h.lt hb).trans h1,h2⟩,Nat.lt_of_lt_of_le h.lt hm.nx⟩
theorem Bx.no {s t:St}{b:Nat}{l:List AV}(h:Bx s b l)(hm:Mod No s t):Bx t b l:=h.mod hm (fun h=>h)
theorem Bx.put {s:St}{b b':Nat}{l:List AV}{x:AB}(h:Bx s b l)(hn:b≠b'):Bx {s with h:=s.h.put b' x} b l:=
 let⟨c,n,h1,h2⟩:=h.ex;⟨⟨c,n,(aS hn).trans h1,h2⟩,h.lt⟩
theorem Bx.new {s:St}{b:Nat}{l:List AV}{x:AB}(h:Bx s b l):Bx {s with h:=s.h.put s.nx x,nx:=s.nx+1} b l:=
 let⟨c,n,h1,h2⟩:=h.ex;⟨⟨c,n,(aS (Nat.ne_of_lt h.lt)).trans h1,h2⟩,Nat.lt_succ_of_lt h.lt⟩
theorem Bx.box {s:St}{cs:List AV}{n:Nat}:Bx {s with h:=s.h.put s.nx (.cells (Tr.of cs) n),nx:=s.nx+1} s.nx cs:=
 ⟨⟨_,_,bu,fun i u h=>by rw[df];exact h⟩,Nat.lt_succ_self _⟩
theorem Bx.ldL {s:St}{b:Nat}{l:List AV}(h:Bx s b l):∃c n,s.h.get b=some (.cells c n)∧Am.ldL c 0 l.length=some l:=by
 obtain⟨c,n,h1,h2⟩:=h.ex
 exact⟨c,n,h1,aR.mpr ⟨rfl,fun i u hi=>by rw[Nat.zero_add];exact h2 i u hi⟩⟩
theorem Bx.take {s:St}{b:Nat}{l m:List AV}(h:Bx s b (l++m)):Bx s b l:=
 let⟨c,n,h1,h2⟩:=h.ex;⟨⟨c,n,h1,fun i u hi=>h2 i u (by rw[List.getElem?_append_left (List.getElem?_eq_some_iff.mp hi).1];exact hi)⟩,h.lt⟩
section
variable {X:Ctx}
theorem Bx.ld {t:TypeId}{d:TypeDesc}{n b i:Nat}{l:List AV}{v:AV}{s:St}(h:Bx s b l)(hi:l[i]? =some v)(hu:X.und t=some d)(hd:mL d=false)(hn:X.size t=some n):aO X t (.ptr (some (b,i))) s=some (.old v):=
 let⟨_,_,h1,h2⟩:=h.ex;aj hu hd hn h1 (h2 i v hi)
theorem Bx.all {t:TypeId}{d:TypeDesc}{b:Nat}{l:List AV}{s:St}(h:Bx s b l)(hu:X.und t=some d)(hd:mL d=true)(hn:X.size t=some l.length):aO X t (.ptr (some (b,0))) s=some (.old (.agg l)):=
 let⟨_,_,h1,h2⟩:=h.ldL;cG hu hd hn h1 h2
theorem Bx.st {t:TypeId}{b i:Nat}{l:List AV}{v w:AV}{s:St}(h:Bx s b l)(hi:l[i]? =some v)(hn:X.size t=some 1)(hw:w.cells=[w])(ho:aX [w]=true):
  ∃x,cF X t (.ptr (some (b,i))) w s=some (.val (.tup []) {s with h:=s.h.put b x})∧Bx {s with h:=s.h.put b x} b (l.set i w):=by
 obtain⟨c,n,h1,h2⟩:=h.ex
 have hs:stL [w] i c=some (c.put i w):=by simp only[stL,h2 i v hi,sP,ki]
 refine⟨.cells (c.put i w) n,eS hn h1 (by rw[hw];rfl) (by rw[hw];exact ho) (by rw[hw];exact hs),⟨_,_,bu,fun j u hj=>?_⟩,h.lt⟩
 rw[List.getElem?_set] at hj
 rw[Tr.cT]
 by_cases e:j=i
 ·subst e
  rw[if_pos rfl] at hj ⊢
  split at hj
  ·exact hj
  ·cases hj
 ·rw[if_neg (fun h=>e h.symm)] at hj
  rw[if_neg e];exact h2 j u hj
theorem Bx.stm {t:TypeId}{b i:Nat}{l:List AV}{v w:AV}{s:St}(h:Bx s b l)(hi:l[i]? =some v)(hn:X.size t=some 1)(hw:w.cells=[w])(ho:aX [w]=true):
  ∃s',cF X t (.ptr (some (b,i))) w s=some (.val (.tup []) s')∧Bx s' b (l.set i w)∧Mod (fun c=>c=b) s s'∧s'.nx=s.nx:=by
 obtain⟨x,h1,h2⟩:=h.st hi hn hw ho
 exact⟨_,h1,h2,(Mod.refl _ s).put _ (.inr rfl) h.lt,rfl⟩
theorem Bx.sta {t:TypeId}{b:Nat}{l m:List AV}{s:St}(h:Bx s b l)(hl:m.length=l.length)(hn:X.size t=some l.length)(ho:aX m=true):
  ∃x,cF X t (.ptr (some (b,0))) (.agg m) s=some (.val (.tup []) {s with h:=s.h.put b x})∧Bx {s with h:=s.h.put b x} b m:=by
 obtain⟨c,n,h1,h2⟩:=h.ex
 obtain⟨c',hc⟩:=gQ (c:=c) (l:=m) (off:=0) fun j hj=>⟨l[j]'(by omega),by rw[Nat.zero_add];exact h2 j _ (List.getElem?_eq_getElem (by omega))⟩
 refine⟨.cells c' n,eS hn h1 hl ho hc,⟨c',n,bu,fun j u hj=>?_⟩,h.lt⟩
 have:=(List.getElem?_eq_some_iff.mp hj).1
 rw[kG hc,if_pos ⟨Nat.zero_le _,by omega⟩]
 exact hj
theorem Bx.Ae {t:TypeId}{b:Nat}{l m:List AV}{s:St}(h:Bx s b l)(hl:m.length=l.length)(hn:X.size t=some l.length)(ho:aX m=true):
  ∃s',cF X t (.ptr (some (b,0))) (.agg m) s=some (.val (.tup []) s')∧Bx s' b m∧Mod (fun c=>c=b) s s'∧s'.nx=s.nx:=by
 obtain⟨x,h1,h2⟩:=h.sta hl hn ho
 exact⟨_,h1,h2,(Mod.refl _ s).put _ (.inr rfl) h.lt,rfl⟩
theorem yB {t:TypeId}{b i n:Nat}{c:Tr AV}{v w:AV}{s:St}(hb:s.h.get b=some (.cells c n))(hi:c.get i=some v)(hn:X.size t=some 1)(hw:w.cells=[w])(ho:aX [w]=true):
  cF X t (.ptr (some (b,i))) w s=some (.val (.tup []) {s with h:=s.h.put b (.cells (c.put i w) n)}):=
 eS hn hb (by rw[hw];rfl) (by rw[hw];exact ho) (by rw[hw];simp only[stL,hi,sP,ki])
end
theorem wI {s:St}{cs zs:List AV}{cc:Tr AV}{n:Nat}(hcc:stL cs 0 (Tr.of zs)=some cc):(fun s':St=>Mod No s s'∧s'.nx=s.nx+1∧Bx s' s.nx cs) {h:=(s.h.put s.nx (.cells (Tr.of zs) n)).put s.nx (.cells cc n),nx:=s.nx+1,gl:=s.gl,sh:=s.sh}:=by
 refine⟨((Mod.refl _ s).new _).put _ (.inl (Nat.le_refl _)) (Nat.lt_succ_self _),rfl,⟨cc,n,bu,fun j u hj=>?_⟩,Nat.lt_succ_self _⟩
 have:=(List.getElem?_eq_some_iff.mp hj).1
 rw[kG hcc,if_pos ⟨Nat.zero_le _,by omega⟩]
 exact hj
section
variable {X:Ctx}{O:bk}{c:Code}{L:Sl}{D:List DE}{s:St}{Q:bV}{l0 l1 l2:List AV}{n0 n1 n2:Nat}
theorem eK (h:∀s',s'.nx=s.nx+1→Mod No s s'→Bx s' s.nx l0→WL X O c L D s' Q):WL X O c L D {h:=s.h.put s.nx (.cells (Tr.of l0) n0),nx:=s.nx+1,gl:=s.gl,sh:=s.sh} Q:=
 h _ rfl ((Mod.refl _ s).new _) (Bx.box (s:=s))
theorem za (h:∀s',s'.nx=s.nx+2→Mod No s s'→Bx s' s.nx l0→Bx s' (s.nx+1) l1→WL X O c L D s' Q):WL X O c L D {h:=(s.h.put s.nx (.cells (Tr.of l0) n0)).put (s.nx+1) (.cells (Tr.of l1) n1),nx:=s.nx+1+1,gl:=s.gl,sh:=s.sh} Q:=
 h _ rfl (((Mod.refl _ s).new _).new _) (Bx.box (s:=s)).new (Bx.box (s:={h:=s.h.put s.nx (.cells (Tr.of l0) n0),nx:=s.nx+1,gl:=s.gl,sh:=s.sh}))
theorem Nq (h:∀s',s'.nx=s.nx+3→Mod No s s'→Bx s' s.nx l0→Bx s' (s.nx+1) l1→Bx s' (s.nx+2) l2→WL X O c L D s' Q):WL X O c L D {h:=((s.h.put s.nx (.cells (Tr.of l0) n0)).put (s.nx+1) (.cells (Tr.of l1) n1)).put (s.nx+1+1) (.cells (Tr.of l2) n2),nx:=s.nx+1+1+1,gl:=s.gl,sh:=s.sh} Q:=
 h _ rfl ((((Mod.refl _ s).new _).new _).new _) (Bx.box (s:=s)).new.new (Bx.box (s:={h:=s.h.put s.nx (.cells (Tr.of l0) n0),nx:=s.nx+1,gl:=s.gl,sh:=s.sh})).new (Bx.box (s:={h:=(s.h.put s.nx (.cells (Tr.of l0) n0)).put (s.nx+1) (.cells (Tr.of l1) n1),nx:=s.nx+1+1,gl:=s.gl,sh:=s.sh}))
theorem dG {cs zs:List AV}{cc:Tr AV}(hcc:stL cs 0 (Tr.of zs)=some cc)(h:∀s',s'.nx=s.nx+1→Mod No s s'→Bx s' s.nx cs→WL X O c L D s' Q):WL X O c L D {h:=(s.h.put s.nx (.cells (Tr.of zs) n0)).put s.nx (.cells cc n0),nx:=s.nx+1,gl:=s.gl,sh:=s.sh} Q:=
 let⟨h1,h2,h3⟩:=wI (s:=s) (n:=n0) hcc;h _ h2 h1 h3
end
def JF (P:Sl→St→Prop)(D:List DE):bV:=fun x fr s=>x= .norm∧fr.d=D∧∃L,P L s∧cR fr.t L
section
variable {X:Ctx}{O:bk}
theorem jY {a b:Code}{L:Sl}{D:List DE}{s:St}{Q:bV}(P:Sl→St→Prop)(h:WL X O a L D s (JF P D))(hb:∀L' s',P L' s'→WL X O b L' D s' Q):WL X O (.seq a b) L D s Q:=
 iQ (h.mono fun x fr s' ⟨h1,h2,L',h3,h4⟩=>by
  obtain⟨t,d⟩:=fr
  cases h1;cases h2
  exact hb L' s' h3 t h4)
theorem L1 {a b:Code}{L:Sl}{D:List DE}{s:St}{Q:bV}(P:Sl→St→Prop)(h:WL X O a L D s (JF P D))(hb:∀L' s',P L' s'→WL X O b L' D s' Q):WL X O a L D s (wi X O b Q):=
 h.mono fun x fr s' ⟨h1,h2,L',h3,h4⟩=>by
  obtain⟨t,d⟩:=fr
  cases h1;cases h2
  exact hb L' s' h3 t h4
theorem dH {P:Sl→St→Prop}{L:Sl}{D:List DE}{s:St}(M:Sl)(h:P M s)(hM:aI (M.map (·.1)) L=M):Fin (JF P D) .norm L D s:=fun t ht=>
 ⟨rfl,rfl,M,h,by rw[←hM];exact ht.iV _⟩
end
def BN (P:Sl→St→Prop)(D:List DE)(Q:bV):bV:=fun x fr s=>match x with
 | .norm=>fr.d=D∧∃L,P L s∧cR fr.t L
 |x=>Q x fr s
section
variable {X:Ctx}{O:bk}
theorem eG {a b:Code}{L:Sl}{D:List DE}{s:St}{Q:bV}(P:Sl→St→Prop)(h:WL X O a L D s (BN P D Q))(hb:∀L' s',P L' s'→WL X O b L' D s' Q):WL X O (.seq a b) L D s Q:=
 iQ (h.mono fun x fr s' hx=>by
  cases x with
  |norm=>
   obtain⟨h2,L',h3,h4⟩:=hx
   obtain⟨t,d⟩:=fr
   cases h2
   exact hb L' s' h3 t h4
  | _=>exact hx)
theorem dx {P:Sl→St→Prop}{L:Sl}{D:List DE}{s:St}{Q:bV}(M:Sl)(h:P M s)(hM:aI (M.map (·.1)) L=M):Fin (BN P D Q) .norm L D s:=fun t ht=>
 ⟨rfl,M,h,by rw[←hM];exact ht.iV _⟩
theorem zt {P:Sl→St→Prop}{L:Sl}{D E:List DE}{s:St}{Q:bV}(h:Fin Q .ret L D s):Fin (BN P E Q) .ret L D s:=h
theorem yO {P:Sl→St→Prop}{L:Sl}{D E:List DE}{s:St}{Q:bV}{v:AV}(h:Fin Q (.pan v) L D s):Fin (BN P E Q) (.pan v) L D s:=h
theorem zV {P:Sl→St→Prop}{L:Sl}{D E:List DE}{s:St}{Q:bV}{i:Nat}(h:Fin Q (.brk i) L D s):Fin (BN P E Q) (.brk i) L D s:=h
end
theorem Sli.at {s:St}{v:AV}{es:Nat}{rows:List (List AV)}(h:Sli s v es rows){i:Nat}{r:List AV}(hr:rows[i]? =some r):
  ∃b off c x t n,v= .slc (some (b,off,es)) rows.length c x∧b<s.nx∧s.h.get b=some (.cells t n)∧ldL t (off+i*es) es=some r:=by
 obtain⟨a,c,x,rfl,h5⟩:=h.ex
 obtain⟨b,off,t,n,rfl,k1,k2,k3⟩:=h5 (by intro e;subst e;simp at hr)
 exact⟨b,off,c,x,t,n,rfl,k1,k2,k3 i r hr⟩
theorem Bx.sli {s:St}{b es c n:Nat}{x:Bool}{rows:List (List AV)}(h:Bx s b rows.flatten)(hl:∀r∈rows,r.length=es)(hn:rows.length=n):Sli s (.slc (some (b,0,es)) n c x) es rows:=by
 obtain⟨t,m,h1,h2⟩:=h.ldL
 subst hn
 exact⟨_,c,x,rfl,fun _=>⟨b,0,t,m,rfl,h.lt,h1,gh hl (by rw[dE hl] at h2;exact h2)⟩⟩
theorem fO {t:Tr AV}{i:Nat}{v:AV}(h:ldL t i 1=some [v]):t.get i=some v:=by
 have:=(aR.mp h).2 0 v rfl
 simpa using this
end Go.Am
end
section
namespace Go.Am
theorem Hp {k:Nat}{v:AV}{L:Sl}:lk ((k,v)::L) k=some v:=by simp[lk]
theorem DR {k j:Nat}{v:AV}{L:Sl}(h:k≠j):lk ((k,v)::L) j=lk L j:=by
 have:Nat.beq k j=false:=by
  cases hq:Nat.beq k j with
  |false=>rfl
  |true=>exact absurd (Nat.beq_eq.mp hq) h
 simp only[lk,this]
section
variable {k:IntKind}{n:Int}{b:Bool}{x:ByteArray}{f:FloatKind}{m:Nat}
theorem Oh:ofV (.int k n)= .int k n:=rfl
theorem Oo:ofV (.bool b)= .bool b:=rfl
theorem OO:ofV (.string x)= .str (Str.of x):=rfl
theorem OG:ofV (.float f m)= .flt f m:=rfl
theorem OT:ofV (.pointer none)= .ptr none:=rfl
theorem OS:ofV (.slice none 0 0)= .slc none 0 0 true:=rfl
theorem Ph:ofV (.map none)= .map none:=rfl
theorem O7:ofV .nilFunc= .nilFunc:=rfl
theorem Ot:ofV .nilIface= .nilIface:=rfl
end
def uBp:=PLift.up (And.intro (And.intro (And.intro (And.intro (And.intro (And.intro (And.intro (@Hq) (And.intro (@Jr) (@PA))) (And.intro (@O8) (And.intro (@OH) (@Oc)))) (And.intro (And.intro (@Mr) (And.intro (@Li) (@NM))) (And.intro (@J8) (And.intro (@HW) (@Nr))))) (And.intro (And.intro (And.intro (@NL) (And.intro (@KU) (@Lj))) (And.intro (@Ox) (And.intro (@PF) (@OV)))) (And.intro (And.intro (@Oj) (And.intro (@dO.eq_1) (@Op.operands.eq_1))) (And.intro (And.intro (@Op.operands.eq_2) (@Op.operands.eq_3)) (And.intro (@Op.operands.eq_4) (@Op.operands.eq_5)))))) (And.intro (And.intro (And.intro (And.intro (@Op.operands.eq_6) (And.intro (@Op.operands.eq_7) (@Op.operands.eq_8))) (And.intro (@Op.operands.eq_9) (And.intro (@Op.operands.eq_10) (@Op.operands.eq_11)))) (And.intro (And.intro (@Op.operands.eq_12) (And.intro (@Op.operands.eq_13) (@Op.operands.eq_14))) (And.intro (And.intro (@Op.operands.eq_15) (@Op.operands.eq_16)) (And.intro (@Op.operands.eq_17) (@Op.operands.eq_18))))) (And.intro (And.intro (And.intro (@Op.operands.eq_19) (And.intro (@Op.operands.eq_20) (@Op.operands.eq_21))) (And.intro (@Op.operands.eq_22) (And.intro (@Op.operands.eq_23) (@Op.operands.eq_24)))) (And.intro (And.intro (@Op.operands.eq_25) (And.intro (@Op.operands.eq_26) (@Op.operands.eq_27))) (And.intro (And.intro (@Op.operands.eq_28) (@Op.operands.eq_29)) (And.intro (@Op.operands.eq_30) (@Op.operands.eq_31))))))) (And.intro (And.intro (And.intro (And.intro (And.intro (@Op.operands.eq_32) (And.intro (@Op.operands.eq_33) (@Op.operands.eq_34))) (And.intro (@Op.operands.eq_35) (And.intro (@Op.operands.eq_36) (@Op.operands.eq_37)))) (And.intro (And.intro (@Op.operands.eq_38) (And.intro (@Op.operands.eq_39) (@Op.operands.eq_40))) (And.intro (@Op.operands.eq_41) (And.intro (@Op.operands.eq_42) (@Op.operands.eq_43))))) (And.intro (And.intro (And.intro (@Call.operands.eq_1) (And.intro (@NF) (@Kl))) (And.intro (@OQ) (And.intro (@Nb) (@H3)))) (And.intro (And.intro (@LW) (And.intro (@Kx) (@Option.isSome_some.{0}))) (And.intro (And.intro (@Ps) (@Ln)) (And.intro (@MI) (@MH)))))) (And.intro (And.intro (And.intro (And.intro (@Option.getD_some.{0}) (And.intro (@aQ.eq_1) (@opG.eq_1))) (And.intro (@opG.eq_2) (And.intro (@opG.eq_3) (@opG.eq_4)))) (And.intro (And.intro (@opG.eq_5) (And.intro (@opG.eq_6) (@opG.eq_7))) (And.intro (And.intro (@opG.eq_8) (@opG.eq_9)) (And.intro (@opG.eq_10) (@opG.eq_11))))) (And.intro (And.intro (And.intro (@opG.eq_12) (And.intro (@opG.eq_13) (@opG.eq_14))) (And.intro (@opG.eq_15) (And.intro (@opG.eq_16) (@opG.eq_17)))) (And.intro (And.intro (@opG.eq_18) (And.intro (@opG.eq_19) (@opG.eq_20))) (And.intro (And.intro (@opG.eq_21) (@opG.eq_22)) (And.intro (@opG.eq_23) (@opG.eq_24)))))))) (And.intro (And.intro (And.intro (And.intro (And.intro (And.intro (@opG.eq_25) (And.intro (@opG.eq_26) (@opG.eq_27))) (And.intro (@opG.eq_28) (And.intro (@opG.eq_29) (@opG.eq_30)))) (And.intro (And.intro (@NA) (And.intro (@Nv) (@ofV.eq_1))) (And.intro (@ofV.eq_2) (And.intro (@pk.eq_1) (@pk.eq_2))))) (And.intro (And.intro (And.intro (@pk.eq_3) (And.intro (@pk.eq_4) (@pk.eq_5))) (And.intro (@pk.eq_6) (And.intro (@pk.eq_7) (@pk.eq_8)))) (And.intro (And.intro (@pk.eq_9) (And.intro (@dP.eq_1) (@dP.eq_3))) (And.intro (And.intro (@dP.eq_5) (@dP.eq_7)) (And.intro (@dP.eq_9) (@dP.eq_10)))))) (And.intro (And.intro (And.intro (And.intro (@dP.eq_11) (And.intro (@tY.eq_1) (@yG.eq_1))) (And.intro (@jf.eq_1) (And.intro (@jf.eq_2) (@sT.eq_1)))) (And.intro (And.intro (@sT.eq_2) (And.intro (@List.map_cons.{0,0}) (@List.map_nil.{0,0}))) (And.intro (And.intro (@List.getElem?_cons_zero.{0}) (@List.getElem?_cons_succ.{0})) (And.intro (@Option.map_some.{0,0}) (@Option.map_none.{0,0}))))) (And.intro (And.intro (And.intro (@Array.toList_append.{0}) (And.intro (@List.append_nil.{0}) (@List.nil_append.{0}))) (And.intro (@List.cons_append.{0}) (And.intro (@Option.toArray.eq_1.{0}) (@Option.toArray.eq_2.{0})))) (And.intro (And.intro (@Pq) (And.intro (@PM) (@O0))) (And.intro (And.intro (@PC) (@PI)) (And.intro (@Oa) (@PL))))))) (And.intro (And.intro (And.intro (And.intro (And.intro (@ON) (And.intro (@O9) (@N4))) (And.intro (@Pm) (And.intro (@PD) (@Pl)))) (And.intro (And.intro (@Pf) (And.intro (@OP) (@HN))) (And.intro (@N6) (And.intro (@PQ) (@H6))))) (And.intro (And.intro (And.intro (@HF) (And.intro (@OW) (@Pd))) (And.intro (@Px) (And.intro (@O2) (@bN)))) (And.intro (And.intro (@M5) (And.intro (@MQ) (@Nm))) (And.intro (And.intro (@qc.eq_1) (@Dc)) (And.intro (@tm.eq_1) (@tm.eq_2)))))) (And.intro (And.intro (And.intro (And.intro (@lr.eq_1) (And.intro (@iz.eq_1) (@NQ))) (And.intro (@O6) (And.intro (@Po) (@vI)))) (And.intro (And.intro (@Pz) (And.intro (@z7) (@J6))) (And.intro (And.intro (@Kn) (@K9)) (And.intro (@I1) (@Jo))))) (And.intro (And.intro (And.intro (@Jl) (And.intro (@Ib) (@Hp))) (And.intro (@DR) (And.intro (@Oh) (@Oo)))) (And.intro (And.intro (@OO) (And.intro (@OG) (@OT))) (And.intro (And.intro (@OS) (@Ph)) (And.intro (@O7) (@Ot)))))))))
theorem uB:type_of% uBp.1:=uBp.1
def uDp:=PLift.up (And.intro (And.intro (And.intro (And.intro (And.intro (@Nu) (And.intro (@KS) (@MK))) (And.intro (@Mv) (And.intro (@OZ) (@OJ)))) (And.intro (And.intro (@Pu) (And.intro (@Nn) (@Pb))) (And.intro (@OE) (And.intro (@Om) (@PH))))) (And.intro (And.intro (And.intro (@My) (And.intro (@Ky) (@O5))) (And.intro (@Mq) (And.intro (@Ly) (@NJ)))) (And.intro (And.intro (@Kp) (And.intro (@Nx) (@PX))) (And.intro (@NP) (And.intro (@Pn) (@mask.eq_1)))))) (And.intro (And.intro (And.intro (And.intro (@mask.eq_2) (And.intro (@aC.eq_1) (@aA.eq_1))) (And.intro (@aA.eq_2) (And.intro (@List.all_cons.{0}) (@all_nil)))) (And.intro (And.intro (@Bool.and_self) (And.intro (@Bool.and_true) (@Bool.true_and))) (And.intro (@Bool.false_eq_true) (And.intro (@tj) (@o9))))) (And.intro (And.intro (And.intro (@rT) (And.intro (@AG) (@oQ))) (And.intro (@Bn) (And.intro (@vi) (@Bl)))) (And.intro (And.intro (@yh) (And.intro (@yf) (@yc))) (And.intro (@A8) (And.intro (@pS) (@og)))))))
theorem uD:type_of% uDp.1:=uDp.1
def uEp:=PLift.up (And.intro (And.intro (And.intro (And.intro (And.intro (@MD) (And.intro (@Lu) (@Nt))) (And.intro (And.intro (@Mz) (@NY)) (And.intro (@Oy) (@Pg)))) (And.intro (And.intro (@NO) (And.intro (@Oe) (@OC))) (And.intro (And.intro (@Pv) (@N7)) (And.intro (@Nf) (@KK))))) (And.intro (And.intro (And.intro (@MC) (And.intro (@J2) (@NH))) (And.intro (And.intro (@Lw) (@NT)) (And.intro (@Ni) (@L0)))) (And.intro (And.intro (@N0) (And.intro (@Od) (@Nj))) (And.intro (And.intro (@LG) (@Pr)) (And.intro (@MO) (@Qd)))))) (And.intro (And.intro (And.intro (And.intro (@Qk) (And.intro (@Ql) (@P1))) (And.intro (And.intro (@Qj) (@IG)) (And.intro (@EG) (@aC.eq_1)))) (And.intro (And.intro (@aA.eq_1) (And.intro (@aA.eq_2) (@List.all_cons.{0}))) (And.intro (And.intro (@all_nil) (@Bool.and_self)) (And.intro (@Bool.and_true) (@Bool.true_and))))) (And.intro (And.intro (And.intro (@Bool.false_eq_true) (And.intro (@tj) (@o9))) (And.intro (And.intro (@rT) (@AG)) (And.intro (@oQ) (@Bn)))) (And.intro (And.intro (And.intro (@vi) (@Bl)) (And.intro (@yh) (@yf))) (And.intro (And.intro (@yc) (@A8)) (And.intro (@pS) (@og)))))))
theorem uE:type_of% uEp.1:=uEp.1
class Stp (g:Prop)(n:outParam Prop):Prop where
 imp:n→g
class Sts (g:Prop)(n:outParam Prop):Prop where
 imp:n→g
instance (priority:=low) QB {g:Prop}:Sts g g:=⟨id⟩
instance (priority:=high) Qv {g n:Prop}[h:Stp g n]:Sts g n:=⟨h.imp⟩
theorem uS {g n:Prop}[h:Stp g n](x:n):g:=h.imp x
section
variable {X:Ctx}{O:bk}{a b:Code}{L:Sl}{D E:List DE}{s:St}{Q:bV}{i:Nat}{v:AV}{n:Prop}{P:Sl→St→Prop}{ops:Array Oper}{α:Type}{I:α→Sl→St→Prop}{μ:α→Nat}{y:α}
instance st0 [h:Sts (WL X O a L D s (wi X O b Q)) n]:Stp (WL X O (.seq a b) L D s Q) n:=⟨fun x=>iQ (h.imp x)⟩
instance st1 [h:Sts (WL X O b L D s (se i Q)) n]:Stp (WL X O (.block i b) L D s Q) n:=⟨fun x=>AY (h.imp x)⟩
instance st2 [h:Sts (WL X O b L D s Q) n]:Stp (WL X O (.scope b) L D s Q) n:=⟨fun x=>I5 (h.imp x)⟩
instance st3 [h:Sts (Fin Q .norm L D s) n]:Stp (WL X O (.label i) L D s Q) n:=⟨fun x=>Bv (h.imp x)⟩
instance st4 [h:Sts (Fin Q .norm L D s) n]:Stp (WL X O .skip L D s Q) n:=⟨fun x=>su (h.imp x)⟩
instance st5 [h:Sts (Fin Q (.brk i) L D s) n]:Stp (WL X O (.exit i) L D s Q) n:=⟨fun x=>KZ (h.imp x)⟩
instance st6 [h:Sts (Fin Q .ret L D s) n]:Stp (WL X O .ret L D s Q) n:=⟨fun x=>Ns (h.imp x)⟩
instance st7 [h:Sts (WL X O b L D s Q) n]:Stp (Fin (wi X O b Q) .norm L D s) n:=⟨fun x=>cV (h.imp x)⟩
instance st8 [h:Sts (Fin Q (.brk i) L D s) n]:Stp (Fin (wi X O b Q) (.brk i) L D s) n:=⟨fun x=>AO (h.imp x)⟩
instance st9 [h:Sts (Fin Q .ret L D s) n]:Stp (Fin (wi X O b Q) .ret L D s) n:=⟨fun x=>Bs (h.imp x)⟩
instance EM [h:Sts (Fin Q (.pan v) L D s) n]:Stp (Fin (wi X O b Q) (.pan v) L D s) n:=⟨fun x=>BI (h.imp x)⟩
instance Qt [h:Sts (Fin Q .norm L D s) n]:Stp (Fin (se i Q) .norm L D s) n:=⟨fun x=>Jn (h.imp x)⟩
instance JG [h:Sts (Fin Q .ret L D s) n]:Stp (Fin (se i Q) .ret L D s) n:=⟨fun x=>BZ (h.imp x)⟩
instance NB [h:Sts (Fin Q (.pan v) L D s) n]:Stp (Fin (se i Q) (.pan v) L D s) n:=⟨fun x=>BC (h.imp x)⟩
instance Ob [h:Sts (Fin Q .norm L D s) n]:Stp (Fin (se i Q) (.brk i) L D s) n:=⟨fun x=>yV (Nat.beq_refl i) (h.imp x)⟩
instance OF [h:Sts (Fin Q (.brk i) L D s) n]:Stp (Fin (oK I μ D Q y) (.brk i) L D s) n:=⟨fun x=>Ap (h.imp x)⟩
instance Qz [h:Sts (Fin Q .ret L D s) n]:Stp (Fin (oK I μ D Q y) .ret L D s) n:=⟨fun x=>Aq (h.imp x)⟩
instance Qx [h:Sts (Fin Q (.pan v) L D s) n]:Stp (Fin (oK I μ D Q y) (.pan v) L D s) n:=⟨fun x=>zJ (h.imp x)⟩
instance QA [h:Sts (Fin Q .ret L D s) n]:Stp (Fin (BN P E Q) .ret L D s) n:=⟨fun x=>zt (h.imp x)⟩
instance Qw [h:Sts (Fin Q (.pan v) L D s) n]:Stp (Fin (BN P E Q) (.pan v) L D s) n:=⟨fun x=>yO (h.imp x)⟩
instance Qu [h:Sts (Fin Q (.brk i) L D s) n]:Stp (Fin (BN P E Q) (.brk i) L D s) n:=⟨fun x=>zV (h.imp x)⟩
instance Qy [h:Sts (Fin Q .norm L D s) n]:Stp (RK X O ops D Q (.fin L s)) n:=⟨fun x=>eH (h.imp x)⟩
instance QD [h:Sts (Fin Q .norm L D s) n]:Stp (RKX X O ops D Q (.fin L s)) n:=⟨fun x=>DD (h.imp x)⟩
instance QC [h:Sts (Fin Q (.pan v) L D s) n]:Stp (RK X O ops D Q (.pan v L s)) n:=⟨fun x=>MG (h.imp x)⟩
end
def uKp:=PLift.up (And.intro @aI.eq_1 (And.intro @aI.eq_2 (And.intro @Hp @DR)))
theorem uK:type_of% uKp.1:=uKp.1
theorem uH {P Q:Prop}(q:Q)(h:Q→P:=by
 intro q
 try(first|refine uS ?_ |refine aa rfl ?_)
 try(first|refine uS ?_ |refine aa rfl ?_)
 try(first|refine uS ?_ |refine aa rfl ?_)
 try(first|refine uS ?_ |refine aa rfl ?_)
 try(first|refine uS ?_ |refine aa rfl ?_)
 try(first|refine uS ?_ |refine aa rfl ?_)
 try(first|refine uS ?_ |refine aa rfl ?_)
 try(first|refine uS ?_ |refine aa rfl ?_)
 exact q):P:=h q
theorem uJ {X:Ctx}{O:bk}(ks:List Nat){c:Code}{L M:Sl}{D:List DE}{s:St}{Q:bV}(k:WL X O c M D s Q)(h:aI ks L=M:=by simp(disch:=omega) only[uK];exact rfl):WL X O c L D s Q:=WL.iV ks (h▸k)
end Go.Am
end
section
namespace Go.Proofs.Ytofohkdkpbigiaa
open Go.Am
set_option maxRecDepth 10000
theorem uQ {a b:Prop}(h:a)(k:b):a∧b:=⟨h,k⟩
def uTp:=PLift.up (uQ (uQ (uQ (uQ (uQ (uQ (uQ (lS) (uQ (jl) (ML))) (uQ (Nc) (uQ (aJ) (ay)))) (uQ (uQ (zu) (uQ (M3) (nf))) (uQ (eI) (uQ (IV) (MF))))) (uQ (uQ (uQ (gT) (uQ (qw) (zQ))) (uQ (sW) (uQ (aE) (aF)))) (uQ (uQ (wP) (uQ (GM) (CZ))) (uQ (uQ (KF) (JZ)) (uQ (L5) (ma)))))) (uQ (uQ (uQ (uQ (kH) (uQ (K5) (LJ))) (uQ (ou) (uQ (eB) (D4)))) (uQ (uQ (Kf) (uQ (nW) (jc))) (uQ (pO) (uQ (DZ) (wX))))) (uQ (uQ (uQ (zm) (uQ (zO) (KB))) (uQ (lx) (uQ (ct) (jE)))) (uQ (uQ (D6) (uQ (cM) (ft))) (uQ (uQ (Lp) (JL)) (uQ ((fun{a n c x s}=>gZ (a:=a) (n:=n) (c:=c) (x:=x) (s:=s) cM)) (dK))))))) (uQ (uQ (uQ (uQ (uQ (fu) (uQ (K7) (LY))) (uQ ((fun{a n c x s}=>gZ (a:=a) (n:=n) (c:=c) (x:=x) (s:=s) dK)) (uQ (fq) (fi)))) (uQ (uQ (LD) (uQ (Lk) ((fun{a n c x s}=>gZ (a:=a) (n:=n) (c:=c) (x:=x) (s:=s) fq)))) (uQ (fS) (uQ (gX) (JE))))) (uQ (uQ (uQ (LZ) (uQ ((fun{a n c x s}=>gZ (a:=a) (n:=n) (c:=c) (x:=x) (s:=s) fS)) (bY))) (uQ (cD) (uQ (iW) (JQ)))) (uQ (uQ (qH) (uQ (gm) (sv))) (uQ (uQ (El) (dw)) (uQ (dp) (LI)))))) (uQ (uQ (uQ (uQ (Ji) (uQ (uA) (JH))) (uQ (K6) (uQ (bF) (bK)))) (uQ (uQ (sE) (uQ (sN) ((fun{a n c x s}=>gZ (a:=a) (n:=n) (c:=c) (x:=x) (s:=s) bF)))) (uQ (uQ (sX) (pI)) (uQ (JV) (L2))))) (uQ (uQ (uQ (sR) (uQ (rM) (JO))) (uQ (Jq) (uQ ((fun{a n c x s}=>gZ (a:=a) (n:=n) (c:=c) (x:=x) (s:=s) sR)) (qL)))) (uQ (uQ (LC) (uQ (Ey) (Kr))) (uQ (uQ (ie) (ze)) (uQ (Ew) (Ls)))))))) (uQ (uQ (uQ (uQ (uQ (uQ ((fun{a n c x s}=>gZ (a:=a) (n:=n) (c:=c) (x:=x) (s:=s) ie)) (uQ (j9) (eN))) (uQ (sw) (uQ (yZ) (bU)))) (uQ (uQ (jC) (uQ (Js) (La))) (uQ ((fun{a n c x s}=>gZ (a:=a) (n:=n) (c:=c) (x:=x) (s:=s) bU)) (uQ (ej) (dZ))))) (uQ (uQ (uQ (JM) (uQ (LX) (qJ))) (uQ (Jx) (uQ (DC) (Kh)))) (uQ (uQ (jz) (uQ (fJ) (DU))) (uQ (uQ (Ed) ((fun{a n c x s}=>gZ (a:=a) (n:=n) (c:=c) (x:=x) (s:=s) jz))) (uQ (eU) (gi)))))) (uQ (uQ (uQ (uQ (LO) (uQ (JI) (fH))) (uQ (dL) (uQ (nR) (DG)))) (uQ (uQ (NV) (uQ (J3) (LS))) (uQ (KQ) (uQ (cJ) (cP))))) (uQ (uQ (uQ (KH) (uQ (Lt) ((fun{a n c x s}=>gZ (a:=a) (n:=n) (c:=c) (x:=x) (s:=s) cJ)))) (uQ (Cn) (uQ (J9) (Eu)))) (uQ (uQ (Lx) (uQ (py) (bX))) (uQ (uQ (mG) (nN)) (uQ (MA) (Lz))))))) (uQ (uQ (uQ (uQ (uQ (Lc) (uQ (LM) (CM))) (uQ (zg) (uQ (DV) (Lm)))) (uQ (uQ (Ac) (uQ (GC) (AE))) (uQ (It) (uQ (uF) (AJ))))) (uQ (uQ (uQ (pA) (uQ (GK) (sH))) (uQ (G8) (uQ (HJ) (G5)))) (uQ (uQ (zM) (uQ (Ja) (HX))) (uQ (uQ (Gn) (JP)) (uQ (Hy) (HL)))))) (uQ (uQ (uQ (uQ (IB) (uQ (zZ) (Ht))) (uQ (Ax) (uQ (HT) (sL)))) (uQ (uQ (pc) (uQ (sx) (Jc))) (uQ (uQ (uM) (IT)) (uQ (HY) (Je))))) (uQ (uQ (uQ ((fun{a n c x s}=>gZ (a:=a) (n:=n) (c:=c) (x:=x) (s:=s) uM)) (uQ (zC) (GO))) (uQ (AL) (uQ (mB) (Hm)))) (uQ (uQ (G7) (uQ (HM) ((fun{a n c x s}=>gZ (a:=a) (n:=n) (c:=c) (x:=x) (s:=s) mB)))) (uQ (uQ (J1) (GV)) (uQ (I8) (Ig)))))))))
theorem uT:type_of% uTp.1:=uTp.1
theorem uG {P Q:Prop}(q:Q)(h:Q→P:=by
 intro q
 try(first|refine uS ?_ |refine aa rfl ?_ |refine ad (by simp(disch:=omega) only[uB,uT];exact rfl) ?_)
 try(first|refine uS ?_ |refine aa rfl ?_ |refine ad (by simp(disch:=omega) only[uB,uT];exact rfl) ?_)
 try(first|refine uS ?_ |refine aa rfl ?_ |refine ad (by simp(disch:=omega) only[uB,uT];exact rfl) ?_)
 try(first|refine uS ?_ |refine aa rfl ?_ |refine ad (by simp(disch:=omega) only[uB,uT];exact rfl) ?_)
 try(first|refine uS ?_ |refine aa rfl ?_ |refine ad (by simp(disch:=omega) only[uB,uT];exact rfl) ?_)
 try(first|refine uS ?_ |refine aa rfl ?_ |refine ad (by simp(disch:=omega) only[uB,uT];exact rfl) ?_)
 try(first|refine uS ?_ |refine aa rfl ?_ |refine ad (by simp(disch:=omega) only[uB,uT];exact rfl) ?_)
 try(first|refine uS ?_ |refine aa rfl ?_ |refine ad (by simp(disch:=omega) only[uB,uT];exact rfl) ?_)
 try(first|refine uS ?_ |refine aa rfl ?_ |refine ad (by simp(disch:=omega) only[uB,uT];exact rfl) ?_)
 try(first|refine uS ?_ |refine aa rfl ?_ |refine ad (by simp(disch:=omega) only[uB,uT];exact rfl) ?_)
 try(first|refine uS ?_ |refine aa rfl ?_ |refine ad (by simp(disch:=omega) only[uB,uT];exact rfl) ?_)
 try(first|refine uS ?_ |refine aa rfl ?_ |refine ad (by simp(disch:=omega) only[uB,uT];exact rfl) ?_)
 try(first|refine uS ?_ |refine aa rfl ?_ |refine ad (by simp(disch:=omega) only[uB,uT];exact rfl) ?_)
 try(first|refine uS ?_ |refine aa rfl ?_ |refine ad (by simp(disch:=omega) only[uB,uT];exact rfl) ?_)
 try(first|refine uS ?_ |refine aa rfl ?_ |refine ad (by simp(disch:=omega) only[uB,uT];exact rfl) ?_)
 try(first|refine uS ?_ |refine aa rfl ?_ |refine ad (by simp(disch:=omega) only[uB,uT];exact rfl) ?_)
 try(first|refine uS ?_ |refine aa rfl ?_ |refine ad (by simp(disch:=omega) only[uB,uT];exact rfl) ?_)
 try(first|refine uS ?_ |refine aa rfl ?_ |refine ad (by simp(disch:=omega) only[uB,uT];exact rfl) ?_)
 try(first|refine uS ?_ |refine aa rfl ?_ |refine ad (by simp(disch:=omega) only[uB,uT];exact rfl) ?_)
 try(first|refine uS ?_ |refine aa rfl ?_ |refine ad (by simp(disch:=omega) only[uB,uT];exact rfl) ?_)
 try(first|refine uS ?_ |refine aa rfl ?_ |refine ad (by simp(disch:=omega) only[uB,uT];exact rfl) ?_)
 try(first|refine uS ?_ |refine aa rfl ?_ |refine ad (by simp(disch:=omega) only[uB,uT];exact rfl) ?_)
 try(first|refine uS ?_ |refine aa rfl ?_ |refine ad (by simp(disch:=omega) only[uB,uT];exact rfl) ?_)
 try(first|refine uS ?_ |refine aa rfl ?_ |refine ad (by simp(disch:=omega) only[uB,uT];exact rfl) ?_)
 try(first|refine uS ?_ |refine aa rfl ?_ |refine ad (by simp(disch:=omega) only[uB,uT];exact rfl) ?_)
 try(first|refine uS ?_ |refine aa rfl ?_ |refine ad (by simp(disch:=omega) only[uB,uT];exact rfl) ?_)
 try(first|refine uS ?_ |refine aa rfl ?_ |refine ad (by simp(disch:=omega) only[uB,uT];exact rfl) ?_)
 try(first|refine uS ?_ |refine aa rfl ?_ |refine ad (by simp(disch:=omega) only[uB,uT];exact rfl) ?_)
 try(first|refine uS ?_ |refine aa rfl ?_ |refine ad (by simp(disch:=omega) only[uB,uT];exact rfl) ?_)
 try(first|refine uS ?_ |refine aa rfl ?_ |refine ad (by simp(disch:=omega) only[uB,uT];exact rfl) ?_)
 exact q):P:=h q
theorem uL {O:bk}{ops:Array Oper}{D:List DE}{Q:bV}{l:List Oper}{L:Sl}{s:St}{r:RO}(q:RK X O ops D Q r)(h:oN X ops l L s=some r:=by simp(disch:=omega) only[uB,uT];exact rfl):OL X O ops l L D s Q:=bC h q
end Go.Proofs.Ytofohkdkpbigiaa
end
section
namespace Go.Proofs.Ytofohkdkpbigiaa
open Go.Am
set_option maxRecDepth 10000
set_option maxHeartbeats 1000000
set_option linter.unusedSimpArgs false
def pr (p:Str×Str):List AV:=[.str p.1, .str p.2]
section
variable {O:bk}
end
end Go.Proofs.Ytofohkdkpbigiaa
end
section
namespace Go.Am
def Str.pre (s:Str)(i:Nat):Nat:=s.val/256^ (s.len- i)
theorem Str.D5 {s:Str}{i j:Nat}(h:i≤j)(hj:j≤s.len):s.pre i=s.pre j/256^ (j- i):=by
 unfold Str.pre
 rw[Nat.div_div_eq_div_mul,←Nat.pow_add,show s.len- j+(j- i)=s.len- i by omega]
theorem Str.Di {a b:Str}{i j:Nat}(h:i≤j)(ha:j≤a.len)(hb:j≤b.len)(hl:a.pre j≤b.pre j):a.pre i≤b.pre i:=by
 rw[Str.D5 h ha,Str.D5 h hb]
 exact Nat.div_le_div_right hl
theorem Str.Nz {a b:Str}{i j:Nat}(h:i≤j)(ha:j≤a.len)(hb:j≤b.len)(hl:a.pre i<b.pre i):a.pre j<b.pre j:=by
 rcases Nat.lt_or_ge (a.pre j) (b.pre j) with q|q
 ·exact q
 ·have:=Str.Di h hb ha q;omega
theorem Str.lt_iff {a b:Str}:a.lt b=true↔a.pre (min a.len b.len)<b.pre (min a.len b.len)∨(a.pre (min a.len b.len)=b.pre (min a.len b.len)∧a.len<b.len):=by
 unfold Str.lt Str.pre
 simp only[Bool.or_eq_true,Bool.and_eq_true,Nat.blt_eq,Nat.beq_eq]
theorem Str.lt_trans {a b c:Str}(h:a.lt b=true)(h':b.lt c=true):a.lt c=true:=by
 rw[Str.lt_iff] at h h' ⊢
 have g1:a.pre (min a.len b.len)≤b.pre (min a.len b.len):=by omega
 have g2:b.pre (min b.len c.len)≤c.pre (min b.len c.len):=by omega
 have k1:=Str.Di (i:=min a.len (min b.len c.len)) (by omega) (by omega) (by omega) g1
 have k2:=Str.Di (i:=min a.len (min b.len c.len)) (by omega) (by omega) (by omega) g2
 by_cases e:a.pre (min a.len (min b.len c.len))<c.pre (min a.len (min b.len c.len))
 ·exact .inl (Str.Nz (by omega) (by omega) (by omega) e)
 ·have e1:a.pre (min a.len (min b.len c.len))=b.pre (min a.len (min b.len c.len)):=by omega
  have e2:b.pre (min a.len (min b.len c.len))=c.pre (min a.len (min b.len c.len)):=by omega
  by_cases q1:a.len≤b.len∧a.len≤c.len
  ·rw[show min a.len (min b.len c.len)=a.len by omega] at e1 e2
   rw[show min a.len b.len=a.len by omega] at h
   rw[show min a.len c.len=a.len by omega]
   refine .inr ⟨e1.trans e2,?_⟩
   rcases Nat.lt_or_ge a.len c.len with q|q
   ·exact q
   ·have hac:a.len=c.len:=by omega
    rw[show min b.len c.len=a.len by omega] at h'
    omega
  ·by_cases q2:b.len≤a.len∧b.len≤c.len
   ·rw[show min a.len (min b.len c.len)=b.len by omega] at e1
    rw[show min a.len b.len=b.len by omega] at h
    omega
   ·rw[show min a.len (min b.len c.len)=c.len by omega] at e2
    rw[show min b.len c.len=c.len by omega] at h'
    omega
theorem Str.lt_irrefl (a:Str):a.lt a=false:=by
 cases h:a.lt a with
 |false=>rfl
 |true=>rw[Str.lt_iff] at h;omega
theorem Str.lt_asymm {a b:Str}(h:a.lt b=true):b.lt a=false:=by
 cases h':b.lt a with
 |false=>rfl
 |true=>have:=Str.lt_trans h h';rw[Str.lt_irrefl] at this;cases this
theorem Str.EF {a b:Str}(h:a.lt b=false)(h':b.lt a=false):a=b:=by
 have g:¬a.lt b=true:=by rw[h];simp
 have g':¬b.lt a=true:=by rw[h'];simp
 rw[Str.lt_iff] at g g'
 rw[Nat.min_comm b.len a.len] at g'
 have hl:a.len=b.len:=by omega
 have hv:a.pre (min a.len b.len)=b.pre (min a.len b.len):=by omega
 unfold Str.pre at hv
 rw[show min a.len b.len=a.len by omega,hl,Nat.sub_self,Nat.pow_zero,Nat.div_one,Nat.div_one] at hv
 cases a;cases b;simp at hl hv ⊢;exact⟨hl,hv⟩
theorem Str.ne_of_lt {a b:Str}(h:a.lt b=true):a≠b:=fun e=>by rw[e,Str.lt_irrefl] at h;cases h
theorem Str.total {a b:Str}:a.lt b=true∨a=b∨b.lt a=true:=by
 cases h:a.lt b with
 |true=>exact .inl rfl
 |false=>cases h':b.lt a with
  |true=>exact .inr (.inr rfl)
  |false=>exact .inr (.inl (Str.EF h h'))
end Go.Am
end
section
namespace Go.Proofs.Ytofohkdkpbigiaa
open Go.Am
set_option maxRecDepth 10000
set_option maxHeartbeats 1000000
set_option linter.unusedSimpArgs false
section
variable {O:bk}
theorem zT:X.fns.get 90=some Try.f90:=by kernel_rfl
theorem Fp:X.fns.get 62=some Try.f62:=by kernel_rfl
theorem tM (ho:O 62=none)(p:Nat→Bool){s:St}{n:Nat}{f:AV}{g:FuncId}{a c:List AV}(hf:f= .func (.func g) a c)(hn:n≤1000000000)
  (hp:∀s' i,Mod No s s'→i<n→Ca X O (.fn g) (a++[.int .i64 (i:Int)]++c) s' fun r=>∃s'',r= .ret (.bool (p i)) s''∧Mod No s' s''):
  Ca X O (.fn 62) [.int .i64 (n:Int),f] s fun r=>∃ (k:Nat) (s':St),r= .ret (.int .i64 (k:Int)) s'∧Mod No s s'∧k≤n∧(0<k→p (k- 1)=false)∧(k<n→p k=true):=by
 subst hf
 refine aZ ho Fp rfl ?_
 unfold aB aB aB
 refine uG ?_
 let I:Nat×Nat→Sl→St→Prop:=fun ij L s'=>Mod No s s'∧ij.1≤ij.2∧ij.2≤n∧(0<ij.1→p (ij.1- 1)=false)∧(ij.2<n→p ij.2=true)∧L=[(1, .func (.func g) a c),(5, .int .i64 (ij.1:Int)),(6, .int .i64 (ij.2:Int))]
 refine WL.less (M:=[(1, .func (.func g) a c),(5, .int .i64 ((0:Nat):Int)),(6, .int .i64 (n:Int))]) ?_ rfl
 refine bm I (fun ij=>ij.2- ij.1) ?_ n (0,n) _ s (by simp) ⟨Mod.refl _ _,by simp,Nat.le_refl _,fun h=>absurd h (by simp),fun h=>absurd h (by simp),rfl⟩
 rintro⟨i,j⟩ L s' ⟨hm,hij,hj,h1,h2,rfl⟩
 simp only at hij hj h1 h2 ⊢
 refine uG ?_
 refine uJ [1,5,6,11] ?_
 refine ae rfl rfl (fun hc=>?_) (fun hc=>?_)
 ·simp at hc
  have hm2:((i:Int)+(j:Int))/2=(((i+j)/2:Nat):Int):=by omega
  have hb:(((i+j)/2:Nat):Int)<n:=by omega
  repeat(first|refine uS ?_ |refine aa rfl ?_ |refine ad (by simp(disch:=omega) only[uB,uT,Mj aJ zM,Mj zM aJ,hm2];exact rfl) ?_)
  refine au (hp s' ((i+j)/2) hm (by omega)) ?_ ?_
  ·rintro v s2 ⟨s3,e,hm3⟩
   cases e
   have hm3:=hm.trans hm3 (fun _ _ h=>h)
   refine uL ?_
   refine uH ?_
   refine uJ [1,5,6,7,21] ?_
   refine ae rfl rfl (fun hc=>?_) (fun hc=>?_)
   ·simp at hc
    refine uG ?_
    refine aM ((i+j)/2+1,j) [(1, .func (.func g) a c),(5, .int .i64 (((i+j)/2+1:Nat):Int)),(6, .int .i64 (j:Int))] ⟨hm3,by simp only;omega,hj,fun _=>by simpa using hc,h2,rfl⟩ (by simp only;omega) (by simp[aI,aD])
   ·simp at hc
    refine uG ?_
    refine aM (i,(i+j)/2) [(1, .func (.func g) a c),(5, .int .i64 (i:Int)),(6, .int .i64 (((i+j)/2:Nat):Int))] ⟨hm3,by simp only;omega,by simp only;omega,h1,fun _=>hc,rfl⟩ (by simp only;omega) (by simp[aI,aD])
  ·(intro v s' h;simp at h)
 ·simp at hc
  obtain rfl:i=j:=by omega
  refine uG ?_
  refine ai rfl ?_
  exact⟨i,s',rfl,hm,hj,h1,h2⟩
theorem lE (ho:O 90=none){s:St}{v:AV}{p:List (Str×Str)}(h:Sli s v 2 (p.map pr))(hl:p.length≤1000000):
  Ca X O (.fn 90) [v] s fun r=>∃u s',r= .ret u s'∧Sli s' u 2 (p.map pr)∧Mod No s s'∧∀b,blk u=some b→s.nx≤b∧b<s'.nx:=by
 refine aZ ho zT rfl ?_
 unfold aB aB
 obtain⟨a,c,x,rfl,g⟩:=h.ex
 by_cases hp:p=[]
 ·subst hp
  cases a with
  |none=>
   repeat(first|refine uS ?_ |refine aa rfl ?_ |refine ad (by simp(disch:=omega) only[uB,uT,Option.isNone_none];exact rfl) ?_)
   refine uJ [0,4] ?_
   refine ae rfl rfl (fun hc=>?_) (fun hc=>?_)
   ·refine uG ?_
    refine ai rfl ?_
    exact⟨_,_,rfl,⟨none,0,true,rfl,fun h=>absurd rfl h⟩,Mod.refl _ _,fun b hb=>by cases hb⟩
   ·cases hc
  |some q=>
   obtain⟨b,off,es⟩:=q
   repeat(first|refine uS ?_ |refine aa rfl ?_ |refine ad (by simp(disch:=omega) only[uB,uT,Mh bF];exact rfl) ?_)
   refine uJ [0,4] ?_
   refine ae rfl rfl (fun hc=>?_) (fun hc=>?_)
   ·cases hc
   ·have h0:∀s',bb s' 2 (.slc (some (b,off,es)) 0 c x)=some (0,[]):=fun s'=>rfl
    repeat(first|refine uS ?_ |refine aa rfl ?_ |refine ad (by simp(disch:=omega) only[uB,uT,GJ bF bX mG rfl (by decide),gd bF (.inl rfl),wB bF nN (h0 _),List.length_nil];exact rfl) ?_)
    refine ai rfl ?_
    exact⟨_,_,rfl,⟨_,_,_,rfl,fun h=>absurd rfl h⟩,(Mod.refl _ _).new _,fun b hb=>by cases hb;exact⟨Nat.le_refl _,Nat.lt_succ_self _⟩⟩
 ·obtain⟨b,off,t,n,rfl,k1,k2,k3⟩:=g (by simpa using hp)
  have hne:p.map pr≠[]:=by simpa using hp
  have hacc:Acc {s with h:=s.h.put s.nx (.cells (Tr.of []) 0),nx:=s.nx+1} (.slc (some (s.nx,0,2)) 0 0 true) 2 []:=
   ⟨.inr ⟨s.nx,true,Tr.of [],rfl,Nat.lt_succ_self _,⟨0,bu⟩,rfl⟩,fun _ h=>by simp at h⟩
  have hm1:Mod No s {s with h:=s.h.put s.nx (.cells (Tr.of []) 0),nx:=s.nx+1}:=(Mod.refl _ _).new _
  have hsrc:=(h.mod hm1 (fun _ _ h=>h)).src
  have hall:aX (p.map pr).flatten=true:=uh fun r hr=>by
   obtain⟨q,_,rfl⟩:=List.mem_map.mp hr;rfl
  obtain⟨u,s',e1,e2,e3,e4⟩:=gV bF nN hacc hsrc (fun r hr=>by obtain⟨q,_,rfl⟩:=List.mem_map.mp hr;rfl) hne hall (by simpa using hl)
  repeat(first|refine uS ?_ |refine aa rfl ?_ |refine ad (by simp(disch:=omega) only[uB,uT,Mh bF];exact rfl) ?_)
  refine uJ [0,4] ?_
  refine ae rfl rfl (fun hc=>?_) (fun hc=>?_)
  ·cases hc
  ·repeat(first|refine uS ?_ |refine aa rfl ?_ |refine ad (by simp(disch:=omega) only[uB,uT,GJ bF bX mG rfl (by decide),gd bF (.inl rfl),e1];exact rfl) ?_)
   refine ai rfl ?_
   refine⟨u,s',rfl,by simpa using e2.sli,hm1.trans e3 (fun c hc h=>?_),fun c hc=>?_⟩
   ·simp[blk] at h;omega
   ·have:=e2.lt hc;rw[e4] at hc;simp at hc;omega
end
end Go.Proofs.Ytofohkdkpbigiaa
end
