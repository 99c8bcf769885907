/-
  A part of the texts.
-/
import Derived.Scope
import Derived.ChangeSame
import Derived.OpenShut
import Derived.ProofKit
import Derived.WideKeyArgs
import Derived.Test.YtofohkdkpbigiaaRows
import Derived.Test.YtofohkdkpbigiaaQag
section
namespace Go.Am
def CN (P:Program)(l:Nat)(R:Ending→World→Prop):Exit→Act→World→Prop
 | .normal,_,w=>∃v w',(Instr.endRound l none).run P w= .ok v w'∧R (.returned v) w'
 | .ret,_,w=>∃v w',(Instr.endRound l (some .ret)).run P w= .ok v w'∧R (.returned v) w'
 | .exit id,_,w=>∃v w',(Instr.endRound l (some (.exit id))).run P w= .ok v w'∧R (.returned v) w'
 | .goto t,_,w=>∃v w',(Instr.endRound l (some (.goto t))).run P w= .ok v w'∧R (.returned v) w'
 | .panic chain,a,w=>a.defers=[]∧R (.panicked chain) w
 | .outgrown,_,_=>False
theorem Ar {F:Fence}{n:Nat}{P:Program}{l:Nat}{f:FuncId}{tmps:Array Value}{assign body:Code}{w:World}{R:Ending→World→Prop}(hF:F.fn f)(hex:∃fn,P.funcs[f]? =some fn)
  (h:assign.wpIn (F.inRound l) n P (Exit.then (fun a₁ w₁=>∃w₂,(Instr.beginRound l).run P w₁= .ok () w₂∧body.wpIn (F.inRound l) n P (CN P l R) a₁ w₂) (fun _ _ _=>False))
   {tmps:=tmps,defers:=[]} w):
  RoundIn F n P l f tmps assign body w R:=by
 refine⟨hF,fun c cs hr=>?_⟩
 let b:Frame:={(default:Frame) with fn:=f,kind:= .normal,roundOf:=some l}
 have hb0:Frame.round l f tmps assign body .normal=b.atR {tmps:=tmps,defers:=[]} [.code assign, .beginRound, .code body]:=by
  simp[Frame.round,Frame.atR,b]
 have hr':(F.inRound l).room ((c::cs).length+1+n):=hr
 have hF':(F.inRound l).fn b.fn:=hF
 obtain⟨e,a₁,w₁,hq,harr⟩:=h b [.beginRound, .code body] (c::cs) rfl hF' hr'
 rw[←hb0] at harr
 cases e with
 |normal=>
  obtain⟨w₂,hbr,hbody⟩:=hq
  have s1:StepsIn (Machine.fenced P (F.inRound l)) P (lone (b.atR a₁ [.beginRound, .code body]) (c::cs) w₁) (lone (b.atR a₁ [.code body]) (c::cs) w₂):=
   .one (fenced_calm (fr:=b.atR a₁ [.beginRound, .code body]) hF' hr' rfl) (stepR_beginRound rfl hbr)
  obtain⟨e₂,a₂,w₃,hq₂,harr₂⟩:=hbody b [] (c::cs) rfl hF' hr'
  cases e₂ with
  |normal=>
   obtain⟨v,w₄,hend,hR⟩:=hq₂
   exact⟨.returned v,w₄,hR,(StepsIn.trans harr s1).trans (StepsIn.trans harr₂ (.one (fenced_calm (fr:=b.atR a₂ []) hF' hr' rfl) (stepR_round_end rfl rfl hend)))⟩
  |ret=>
   obtain⟨v,w₄,hend,hR⟩:=hq₂
   obtain⟨k₁,hs⟩:=harr₂.2 rfl
   exact⟨.returned v,w₄,hR,(StepsIn.trans harr s1).trans (StepsIn.trans hs (.one (fenced_calm (fr:=b.atR a₂ (.code .ret::k₁)) hF' hr' rfl) (stepR_round_ret rfl rfl hend)))⟩
  |exit id=>
   obtain⟨v,w₄,hend,hR⟩:=hq₂
   obtain⟨k₁,hk,hs⟩:=harr₂.2 rfl rfl
   exact⟨.returned v,w₄,hR,(StepsIn.trans harr s1).trans (StepsIn.trans hs (.one (fenced_calm (fr:=b.atR a₂ (.code (.exit id)::k₁)) hF' hr' rfl) (stepR_round_exit rfl rfl hk hend)))⟩
  |goto t=>
   obtain⟨v,w₄,hend,hR⟩:=hq₂
   obtain⟨k₁,hk,hs⟩:=harr₂.2 rfl rfl
   exact⟨.returned v,w₄,hR,(StepsIn.trans harr s1).trans (StepsIn.trans hs (.one (fenced_calm (fr:=b.atR a₂ (.code (.goto t)::k₁)) hF' hr' rfl) (stepR_round_goto rfl rfl hk hend)))⟩
  |panic chain=>
   obtain⟨hd,hR⟩:=hq₂
   obtain⟨todo,hs⟩:=harr₂
   have hl:({b.atR a₂ todo with mode:= .panicking chain}:Frame).leaving P w₃ (.panicked chain):=⟨rfl,hd,hex⟩
   exact⟨.panicked chain,w₃,hR,(StepsIn.trans harr s1).trans (StepsIn.trans hs (.one (fenced_leaving (fr:={b.atR a₂ todo with mode:= .panicking chain}) hF' hr' hl) (step_leave_panicked hl)))⟩
  |outgrown=>exact hq₂.elim
 |exit id=>exact hq.elim
 |goto t=>exact hq.elim
 |ret=>exact hq.elim
 |panic chain=>exact hq.elim
 |outgrown=>exact hq.elim
section
variable {P:Program}{X:Ctx}(hX:dC P X)
theorem ub:∀ (ps:List Nat) (cargs:List Value) (tmps:Array Value),((ps.zip cargs).foldl (fun tmps (t,a)=>tmps.setIfInBounds t a) tmps).size=tmps.size
 |[],_,_=>by simp
 | _::_,[],_=>by simp
 |p::ps,c::cargs,tmps=>by
  simp only[List.zip_cons_cons,List.foldl_cons]
  rw[ub ps cargs]
  simp
theorem tT {ι:Inj}:∀ (ps:List Nat) (args:List AV) (cargs:List Value) (t t':Tr AV) (tmps:Array Value),jx ps args t=some t'→VRs ι args cargs→(∀k v,t.get k=some v→∃cv,tmps[k]? =some cv∧VR ι v cv)→(∀p∈ps,p<tmps.size)→
  cargs.length=ps.length∧∀k v,t'.get k=some v→∃cv,((ps.zip cargs).foldl (fun tmps (t,a)=>tmps.setIfInBounds t a) tmps)[k]? =some cv∧VR ι v cv
 |[],[],cargs,t,t',tmps,h,hv,ht,hp=>by
  cases cargs with
  |nil=>simp only[jx,Option.some.injEq] at h;subst h;exact⟨rfl,ht⟩
  |cons _ _=>simp[VRs] at hv
 |[],_::_,cargs,t,t',tmps,h,hv,ht,hp=>by simp[jx] at h
 | _::_,[],cargs,t,t',tmps,h,hv,ht,hp=>by simp[jx] at h
 |p::ps,v::args,cargs,t,t',tmps,h,hv,ht,hp=>by
  cases cargs with
  |nil=>simp[VRs] at hv
  |cons cv cargs=>
   simp only[VRs] at hv
   simp only[jx,ki] at h
   have hlt:=hp p (by simp)
   have ih:=tT ps args cargs _ t' (tmps.setIfInBounds p cv) h hv.2 (fun k u hu=>by
    rcases Tr.dB hu with⟨rfl,rfl⟩|⟨hne,hu⟩
    ·exact⟨cv,Array.getElem?_setIfInBounds_self_of_lt hlt,hv.1⟩
    ·obtain⟨c,h1,h2⟩:=ht k u hu
     exact⟨c,by rw[Array.getElem?_setIfInBounds_ne (Ne.symm hne)];exact h1,h2⟩) (fun q hq=>by simpa using hp q (by simp[hq]))
   exact⟨by simp[ih.1],ih.2⟩
theorem EP {ev:Ev}(hev:zN P ev){b:Nat}{args:List AV}{s:St}{r:CR}(h:mw ev b args s=some r){ι:Inj}{w:World}{cargs:Array Value}(hv:VRs ι args cargs.toList)(hH:HR P ι s w){cb:Nat}{d:Nat×Nat}(hb:ι b=some (cb,d)):
  ∃fn tmps assign body,(Instr.yield cb cargs).run P w= .ok (.round cb fn tmps assign body) w∧RoundIn (FE P none) 0 P cb fn tmps assign body w (tN P ι s w r):=by
 unfold mw Dy at h
 split at h
 ·rename_i t ps QE bd0 hg
  obtain⟨hd,r0,N,hw,hex,e1,e2,e3,hst,hN,hN9,hca,hcb,hqa,hqb,hps,ht⟩:=hH.br b cb d _ hb hg
  unfold xR at h
  split at h
  ·rename_i t' hz
   obtain⟨hlen,ht'⟩:=tT ps args cargs.toList t t' r0.tmps hz hv ht (fun p hp=>Nat.lt_of_lt_of_le (hps p hp) hN)
   have hsz:cargs.size=r0.params.size:=by
    rw[←e1] at hlen
    simpa using hlen
   refine⟨_,_,_,_,run_yield hw hsz,Ar (F:=FE P none) hex hex ?_⟩
   have htm:((r0.params.zip cargs).foldl (fun tmps (t,a)=>tmps.setIfInBounds t a) r0.tmps)=((ps.zip cargs.toList).foldl (fun tmps (t,a)=>tmps.setIfInBounds t a) r0.tmps):=by
    rw[←Array.foldl_toList,Array.toList_zip,e1]
   unfold nE at h
   split at h
   ·rename_i fr1 s1 he
    rw[←e2] at he hca hqa
    have hf0:FRN N mh ι ⟨t',[]⟩ {tmps:=(r0.params.zip cargs).foldl (fun tmps (t,a)=>tmps.setIfInBounds t a) r0.tmps,defers:=[]}:=
     ⟨fun k v _ hk=>by rw[htm];exact ht' k v hk, .nil,by rw[htm,ub];exact hN⟩
    refine wpIn_mono (hev _ _ s _ he (some cb) N hN9 hca (.inr hqa) ι _ w hf0 hH) fun e a₁ w₁ ⟨κ,h1,h2,h3,h4⟩=>?_
    cases e<;>simp only at h4
    unfold pL at h
    split at h
    ·rename_i t1 ps1 as1 bd hg1
     have hb1:=h3.le _ _ hb
     obtain⟨_,r1,N1,hw1,hex1,e1',e2',e3',hst1,hN1,hN91,hca1,hcb1,hqa1,hqb1,hps1,ht1⟩:=h2.br b cb d _ hb1 hg1
     refine⟨_,run_beginRound hw1 hst1.1,?_⟩
     have hlt1:cb<w₁.heap.size:=(Array.getElem?_eq_some_iff.mp hw1).1
     obtain⟨p1,p2⟩:=h2.put (w':=w₁.putObj cb (.loop {r1 with state:= .busy})) (ab':= .loop t1 ps1 as1 bd .busy) hb1 hg1 ⟨rfl,rfl⟩ World.putObj_size (fun c hc=>kD c hc)
      ⟨hd,_,N1,World.putObj_heap_same hlt1,hex1,e1',e2',e3',rfl,hN1,hN91,hca1,hcb1,hqa1,hqb1,hps1,ht1⟩
     unfold rk at h
     split at h
     ·rename_i x fr2 s2 he2
      rw[←e3] at he2 hcb hqb
      refine wpIn_mono (hev _ _ _ _ he2 (some cb) N hN9 hcb (.inr hqb) κ _ _ h1 p1) fun e a₂ w₂ ⟨μ,q1,q2,q3,q4⟩=>?_
      unfold wH at h
      split at h
      ·rename_i t2 ps2 as2 bd2 hg2
       have hb2:=q3.le _ _ hb1
       obtain⟨_,r2,N2,hw2,hex2,e1'',e2'',e3'',hst2,hN2,hN92,hca2,hcb2,hqa2,hqb2,hps2,ht2⟩:=q2.br b cb d _ hb2 hg2
       have hlt2:cb<w₂.heap.size:=(Array.getElem?_eq_some_iff.mp hw2).1
       have fin:∀ (j:Option Code) (st:LSt),LR st {r2 with state:=if j.isNone then .ready else .done,pending:=j}→r= .ret (.bool j.isNone) {s2 with h:=s2.h.put b (.loop t2 ps2 as2 bd2 st)}→
         ∃v w',(Instr.endRound cb j).run P w₂= .ok v w'∧tN P ι s w r (.returned v) w':=fun j st hl hr=>by
        obtain⟨z1,z2⟩:=q2.put (w':=w₂.putObj cb (.loop {r2 with state:=if j.isNone then .ready else .done,pending:=j})) (ab':= .loop t2 ps2 as2 bd2 st) hb2 hg2 ⟨rfl,rfl⟩ World.putObj_size (fun c hc=>kD c hc)
         ⟨hd,_,N2,World.putObj_heap_same hlt2,hex2,e1'',e2'',e3'',hl,hN2,hN92,hca2,hcb2,hqa2,hqb2,hps2,ht2⟩
        exact⟨_,_,run_endRound j hw2,_,_,hr,μ,by simp[VR],z1,((h3.trans p2).trans q3).trans z2⟩
       split at h
       ·cases h
        cases e<;>simp only at q4
        exact fin none .ready ⟨rfl,rfl⟩ rfl
       ·cases h
        cases e<;>simp only at q4
        exact fin (some .ret) (.done .ret) ⟨rfl,rfl⟩ rfl
       ·cases h
        cases e<;>simp only at q4
        subst q4
        exact fin (some (.exit _)) (.done (.exit _)) ⟨rfl,rfl⟩ rfl
       ·unfold IY at h
        split at h
        case h_2=>cases h
        rename_i hd0
        cases h
        cases e<;>simp only at q4
        obtain⟨cv,rfl,hcv⟩:=q4
        have hdd:a₂.defers=[]:=by
         have:=q1.d
         simp only[hd0] at this
         exact this.vG
        exact⟨hdd,_,_,rfl,μ,cv,rfl,hcv,q2,(h3.trans p2).trans q3⟩
      ·cases h
     ·cases h
    ·cases h
   ·cases h
  ·cases h
 ·cases h
end
end Go.Am
end
section
namespace Go.Am
section scopes
variable {F:Fence}{n:Nat}{P:Program}{b:Frame}{a:Act}{k:List Item}{cs:List Frame}{w:World}{Q:Exit→Act→World→Prop}
theorem iC {c:Code}:step P (lone (b.atR a (.code (.scope c)::k)) cs w)= .next (lone (b.atR a (.code c:: .inScope c::k)) cs w):=
 step_lone_go (by simp[stepG,stepG.exec,Frame.atR])
theorem xz {c:Code}:step P (lone (b.atR a (.inScope c::k)) cs w)= .next (lone (b.atR a k) cs w):=
 step_lone_go (by simp[stepG,stepG.exec,Frame.atR])
theorem qb {c:Code}(h:c.wpIn F n P (Exit.noGoto Q) a w):(Code.scope c).wpIn F n P Q a w:=by
 intro b k cs hro hb hr
 have h0:(lone (b.atR a (.code (.scope c)::k)) cs w).fenced P F:=fenced_calm hb hr rfl
 obtain⟨e,a₁,w₁,hq,harr⟩:=h b (.inScope c::k) cs hro hb hr
 cases e with
 |normal=>exact⟨.normal,a₁,w₁,hq, .head h0 iC (StepsIn.trans harr (.one (fenced_calm hb hr rfl) xz))⟩
 |exit id=>
  have hx:∀id,exitTo id (.inScope c::k)=exitTo id k:=fun id=>by simp[exitTo]
  exact⟨.exit id,a₁,w₁,hq,fun k' hk=> .head h0 iC (harr.1 k' (by rw[hx];exact hk)),
   fun hr' hk=>let⟨k₁,h1,h2⟩:=harr.2 hr' (by rw[hx];exact hk);⟨k₁,h1, .head h0 iC h2⟩⟩
 |goto l=>exact hq.elim
 |ret=>exact⟨.ret,a₁,w₁,hq, .of_steps (.one h0 iC) harr⟩
 |panic ch=>exact⟨.panic ch,a₁,w₁,hq, .of_steps (.one h0 iC) harr⟩
 |outgrown=>exact⟨.outgrown,a₁,w₁,hq, .of_steps (.one h0 iC) harr⟩
end scopes
section
variable {P:Program}{X:Ctx}(hX:dC P X)(hF:∀f fn,X.fns.get f=some fn→qN fn=true)
include hX hF in
theorem zq {own:bk}(ho:oI P own){ev:Ev}(hev:zN P ev){f:FuncId}{args:List AV}{s:St}{r:CR}(h:fF X own ev f args s=some r){ι:Inj}{w:World}{cargs:Array Value}(hv:VRs ι args cargs.toList)(hH:HR P ι s w):ny P ι s w r f cargs:=by
 unfold fF at h
 split at h
 ·rename_i g hg;exact ho f g hg args s r h ι w cargs hv hH
 ·exact wE hX hF hev h hv hH
include hX hF in
theorem xj {own:bk}(ho:oI P own){ev:Ev}(hev:zN P ev):ob P (cn X own ev):=by
 intro f args s r h ι w cargs hv hH
 unfold cn at h
 split at h
 ·exact zq hX hF ho hev h hv hH
 ·exact fun cb d hb=>EP hev h hv hH hb
theorem tX {ih:Ev}{b:Code}{r:EX×Fr×St}{o:Option (EX×Fr×St)}(h:my ih b o=some r):(∃fr s,o=some (.norm,fr,s)∧ih b fr s=some r)∨(o=some r∧∀fr s,r≠(.norm,fr,s)):=by
 unfold my at h
 split at h
 ·rename_i fr s;exact .inl ⟨fr,s,rfl,h⟩
 ·rename_i hne
  refine .inr ⟨h,fun fr s e=>?_⟩
  subst e
  exact hne _ _ h
theorem LR.LH {st:LSt}{r:Loop}(h:LR st r)(hs:st≠ .busy):r.state≠ .busy:=by
 cases st with
 |ready=>rw[h.1];simp
 |busy=>exact absurd rfl hs
 |done c=>rw[h.1];simp
include hX hF in
theorem F1 {ev:Ev}(hev:zN P ev){g:Operand}{ps:Array Nat}{QE bd:Code}{fr:Fr}{s:St}{r:EX×Fr×St}(h:om X ev ps.toList QE bd fr s (fr.opd g)=some r)
  {N:Nat}(hN:N≤1000000000)(hca:dg N QE=true)(hcb:dg N bd=true)(hqa:quiet QE=true)(hqb:quiet bd=true)(hps:∀p∈ps.toList,p<N){ι:Inj}{a:Act}{w:World}(hf:FRN N mh ι fr a)(hH:HR P ι s w):
  (Code.rangeFunc g ps QE bd).wpIn (FE P none) 0 P (lG P N ι s w r) a w:=by
 have hg:=hf.opd g (fun _ _ h=>h)
 unfold om at h
 split at h
 ·rename_i f first cap hgv
  rw[hgv] at hg
  obtain⟨cx,cy,hgc,hv1,hv2⟩:∃x y,a.eval g= .func (.func f) x y∧VRs ι first x.toList∧VRs ι cap y.toList:=by simpa[VR] using hg
  unfold rp at h
  simp only[mz,oF] at h
  have n1:=hH.new (w':=w.alloc (.deferred (some []))) (ab:= .dfr) (o:= .deferred (some [])) 0 rfl ⟨rfl,rfl⟩ (fun κ _=>⟨rfl,World.alloc_heap_new _ _⟩)
  let ι1:=ι.at s.nx (w.heap.size,0,0)
  let w1:=w.alloc (.deferred (some []))
  let rec0:FuncId→Loop:=fun fn=>{state:= .ready,pending:=none,fn,tmps:=a.tmps,params:=ps,assign:=QE,body:=bd,defers:=w.heap.size}
  have hsz1:w1.heap.size=w.heap.size+1:=by simp[w1]
  refine wpIn_rangeFunc fun fn hex=>?_
  have n2:=n1.1.new (w':=w1.alloc (.loop (rec0 fn))) (ab:= .loop fr.t ps.toList QE bd .ready) (o:= .loop (rec0 fn)) 0 rfl ⟨rfl,rfl⟩ (fun κ hκ=>
   ⟨rfl,rec0 fn,N,World.alloc_heap_new _ _,hex,rfl,rfl,rfl,⟨rfl,rfl⟩,hf.n,hN,hca,hcb,hqa,hqb,hps,fun k v hk=>by
    obtain⟨cv,q1,q2⟩:=hf.t k v (fun h=>h) hk
    exact⟨cv,q1,q2.mono (Inj.le_trans n1.2.le hκ)⟩⟩)
  let ι2:=ι1.at (s.nx+1) (w1.heap.size,0,0)
  let w2:=w1.alloc (.loop (rec0 fn))
  have n2':HR P ι2 ((s.new .dfr).2.new (.loop fr.t ps.toList QE bd .ready)).2 w2∧Ext ι1 (s.new .dfr).2 w1 ι2 ((s.new .dfr).2.new (.loop fr.t ps.toList QE bd .ready)).2 w2:=n2
  have hE2:Ext ι s w ι2 ((s.new .dfr).2.new (.loop fr.t ps.toList QE bd .ready)).2 w2:=n1.2.trans n2'.2
  have hb1:ι2 s.nx=some (w.heap.size,0,0):=by
   show(ι1.at (s.nx+1) _) s.nx=_
   unfold Inj.at
   rw[if_neg (by omega)]
   exact Inj.dr _ _ _
  have hb2:ι2 (s.nx+1)=some (w.heap.size+1,0,0):=by
   rw[←hsz1];exact Inj.dr _ _ _
  have hvy:VR ι2 (.yld (s.nx+1)) (.func (.yield (w.heap.size+1)) #[] #[]):=by
   simp only[VR]
   exact⟨_,_,hb2,rfl⟩
  have hargs:VRs ι2 (first++(.yld (s.nx+1)::cap)) (cx++ #[Value.func (.yield (w.heap.size+1)) #[] #[]]++cy).toList:=by
   have e:(cx++ #[Value.func (.yield (w.heap.size+1)) #[] #[]]++cy).toList=cx.toList++(Value.func (.yield (w.heap.size+1)) #[] #[]::cy.toList):=by simp
   rw[e]
   exact(hv1.mono hE2.le).append (by simp only[VRs];exact⟨hvy,hv2.mono hE2.le⟩)
  unfold tE at h
  split at h
  ·rename_i v s3 hcall
   obtain⟨g1,g2⟩:=gY hX hF hev hcall hargs n2'.1
   refine⟨w.heap.size+1,_,w2,{target:= .fn (.func f) cy,args:=cx++ #[Value.func (.yield (w.heap.size+1)) #[] #[]]},w2,f,cx++ #[Value.func (Fn.yield (w.heap.size+1)) #[] #[]]++cy,w2,run_enterLoop_outer fn a.tmps ps QE bd,?_,fun f' hf'=>?_,?_,lJ,?_⟩
   ·simp only[resolve]
    rw[hgc]
    simp[Deferred.ofValue,Act.eval]
   ·simp only[Target.leads,Option.some.injEq] at hf'
    subst hf'
    exact iD g1
   ·simp only[invoke];exact g1
   ·refine nU (CallsIn.mono g2 fun e w3 he=>?_)
    cases e with
    |panicked chain=>obtain⟨v',s'',e,_⟩:=he;cases e
    |outgrown=>exact he.elim
    |returned cv=>
     obtain⟨v',s'',e,κ,q1,q2,q3⟩:=he
     cases e
     have hk2:=q3.le _ _ hb2
     have hk1:=q3.le _ _ hb1
     have hEall:=hE2.trans q3
     unfold pV at h
     have fin:∀ {t ps' QF bd' st},s3.h.get (s.nx+1)=some (.loop t ps' QF bd' st)→st≠ .busy→∃ (r3:Loop) (w4:World),LR st r3∧(Instr.endLoop (w.heap.size+1)).run P w3= .ok r3.pending w4∧
       HR P κ {s3 with h:=s3.h.del (s.nx+1)} w4∧Ext ι s w κ {s3 with h:=s3.h.del (s.nx+1)} w4∧
       FRN N mh κ ⟨fr.t, .mark s.nx::fr.d⟩ {a with defers:=[{target:= .collected w.heap.size,args:= #[]}]++a.defers}:=fun hg3 hnb=>by
      obtain⟨_,r3,N3,hw3,_,_,_,_,hl,_⟩:=q2.br _ _ _ _ hk2 hg3
      obtain⟨d1,d2⟩:=q2.dead (w':=w3.putObj (w.heap.size+1) (.loop {r3 with state:= .exhausted})) hk2 hg3 ⟨rfl,rfl⟩ World.putObj_size (fun c hc=>kD c hc)
      refine⟨r3,_,hl,run_endLoop hw3 (hl.LH hnb),d1,hEall.trans d2,fun k v hk hv=>?_,?_,hf.n⟩
      ·obtain⟨cv,p1,p2⟩:=hf.t k v hk hv
       exact⟨cv,p1,p2.mono hEall.le⟩
      ·exact .mark rfl hk1 (hf.d.mono hEall.le)
     split at h
     ·rename_i t ps' QF bd' hg3
      cases h
      obtain⟨r3,w4,hl,z1,z2,z3,z4⟩:=fin hg3 (by simp)
      rw[hl.2] at z1
      exact⟨_,_,z1,⟨κ,z4,z2,z3,trivial⟩⟩
     ·rename_i t ps' QF bd' c hg3
      split at h
      ·rename_i hj
       obtain⟨r3,w4,hl,z1,z2,z3,z4⟩:=fin hg3 (by simp)
       rw[hl.2] at z1
       refine⟨_,_,z1,?_⟩
       have hcc:dg N c=true:=by cases c<;>simp_all [vY,dg]
       exact wpIn_mono (hev c _ _ r h none N hN hcc (.inl rfl) κ _ _ z4 z2) fun e a' w' hp=>lG.of z3 hp
      ·cases h
     ·cases h
  ·rename_i v s3 hcall
   cases h
   obtain⟨g1,g2⟩:=gY hX hF hev hcall hargs n2'.1
   refine⟨w.heap.size+1,_,w2,{target:= .fn (.func f) cy,args:=cx++ #[Value.func (.yield (w.heap.size+1)) #[] #[]]},w2,f,cx++ #[Value.func (Fn.yield (w.heap.size+1)) #[] #[]]++cy,w2,run_enterLoop_outer fn a.tmps ps QE bd,?_,fun f' hf'=>?_,?_,lJ,?_⟩
   ·simp only[resolve]
    rw[hgc]
    simp[Deferred.ofValue,Act.eval]
   ·simp only[Target.leads,Option.some.injEq] at hf'
    subst hf'
    exact iD g1
   ·simp only[invoke];exact g1
   ·refine nU (CallsIn.mono g2 fun e w3 he=>?_)
    cases e with
    |returned cv=>obtain⟨v',s'',e,_⟩:=he;cases e
    |outgrown=>exact he.elim
    |panicked chain=>
     obtain⟨v',s'',e,κ,cv,rfl,q1,q2,q3⟩:=he
     cases e
     refine⟨κ,⟨fun k v hk hv=>?_, .mark rfl (q3.le _ _ hb1) (hf.d.mono (hE2.trans q3).le),hf.n⟩,q2,hE2.trans q3,cv,rfl,q1⟩
     obtain⟨cv,p1,p2⟩:=hf.t k v hk hv
     exact⟨cv,p1,p2.mono (hE2.trans q3).le⟩
  ·cases h
 ·cases h
include hX hF in
theorem IN {own:bk}(ho:oI P own):∀n,zN P (ev X own n)∧
  ∀b fr s r,ev X own n (.loop b) fr s=some r→∀ro N,N≤1000000000→dg N b=true→(ro=none∨quiet b=true)→∀ι₀ s₀ w₀ ι a w,FRN N mh ι fr a→HR P ι s w→Ext ι₀ s₀ w₀ ι s w→Code.roundsIn (FE P ro) 0 P b (lG P N ι₀ s₀ w₀ r) n a w:=by
 intro n
 induction n with
 |zero=>exact⟨fun c fr s r h=>(by cases h),fun b fr s r h=>(by cases h)⟩
 |succ n ih=>
  obtain⟨ih,ihl⟩:=ih
  have hcall:=xj hX hF ho ih
  have loops:∀b fr s r,ev X own (n+1) (.loop b) fr s=some r→∀ro N,N≤1000000000→dg N b=true→(ro=none∨quiet b=true)→∀ι₀ s₀ w₀ ι a w,FRN N mh ι fr a→HR P ι s w→Ext ι₀ s₀ w₀ ι s w→Code.roundsIn (FE P ro) 0 P b (lG P N ι₀ s₀ w₀ r) (n+1) a w:=by
   intro b fr s r h ro N hN hc hq ι₀ s₀ w₀ ι a w hf hH hE
   have h:my (ev X own n) (.loop b) (ev X own n b fr s)=some r:=h
   rw[roundsIn_succ]
   rcases tX h with⟨fr',s',h1,h2⟩|⟨h1,h2⟩
   ·refine wpIn_mono (ih b fr s _ h1 ro N hN hc hq ι a w hf hH) fun e a' w' ⟨κ,g1,g2,g3,g4⟩=>?_
    cases e<;>simp only at g4
    exact ihl b fr' s' r h2 ro N hN hc hq ι₀ s₀ w₀ κ a' w' g1 g2 (hE.trans g3)
   ·refine wpIn_mono (ih b fr s _ h1 ro N hN hc hq ι a w hf hH) fun e a' w' hp=>?_
    obtain⟨x,fr',s'⟩:=r
    have hp':=lG.of hE hp
    cases e
    case normal=>
     obtain⟨κ,g1,g2,g3,g4⟩:=hp
     cases x<;>simp only at g4
     exact absurd rfl (h2 fr' s')
    all_goals exact hp'
  refine⟨fun c fr s r h ro N hN hc hq ι a w hf hH=>?_,loops⟩
  replace h:ph X own (ev X own n) c fr s=some r:=h
  unfold ph at h
  split at h
  ·cases h;exact wpIn_skip ⟨ι,hf,hH,Ext.refl _ _ _,trivial⟩
  ·cases h;exact wpIn_label ⟨ι,hf,hH,Ext.refl _ _ _,trivial⟩
  ·rename_i id ops draw
   simp only[dg,Bool.and_eq_true] at hc
   have hq':ro=none∨ops.toList.all gv=true:=hq.imp (fun h=>h) (fun h=>by simpa[quiet] using h)
   unfold vz at h
   split at h
   ·refine wpIn_region ?_
    have:=qe hX hcall ops.toList 0 (by simp) hc.1 hq' h hf hH (Ext.refl _ _ _)
    simpa[List.range_eq_range'] using this
   ·have hdr:qP ops=true:=by simpa using hc.2
    refine wpIn_region_any hX.mixed ?_
    exact Cw hX hcall ro N ops fr s r hN hc.1 hq' hdr h ι s w ι a _ hf (hH.heap rfl) (Ext.heap rfl ⟨rfl,rfl⟩)
  ·rename_i x y
   simp only[dg,Bool.and_eq_true] at hc
   have hq1:ro=none∨quiet x=true:=hq.imp (fun h=>h) (fun h=>by simp only[quiet,Bool.and_eq_true] at h;exact h.1)
   have hq2:ro=none∨quiet y=true:=hq.imp (fun h=>h) (fun h=>by simp only[quiet,Bool.and_eq_true] at h;exact h.2)
   refine wpIn_seq ?_
   rcases tX h with⟨fr',s',h1,h2⟩|⟨h1,h2⟩
   ·refine wpIn_mono (ih x fr s _ h1 ro N hN hc.1 hq1 ι a w hf hH) fun e a' w' ⟨κ,g1,g2,g3,g4⟩=>?_
    cases e<;>simp only at g4
    exact wpIn_mono (ih y fr' s' r h2 ro N hN hc.2 hq2 κ a' w' g1 g2) fun e a w=>lG.of g3
   ·refine wpIn_mono (ih x fr s _ h1 ro N hN hc.1 hq1 ι a w hf hH) fun e a' w' hp=>?_
    obtain⟨x,fr',s'⟩:=r
    cases e
    case normal=>
     obtain⟨κ,g1,g2,g3,g4⟩:=hp
     cases x<;>simp only at g4
     exact absurd rfl (h2 fr' s')
    all_goals exact hp
  ·rename_i x b c
   simp only[dg,Bool.and_eq_true] at hc
   have hq1:ro=none∨quiet b=true:=hq.imp (fun h=>h) (fun h=>by simp only[quiet,Bool.and_eq_true] at h;exact h.1)
   have hq2:ro=none∨quiet c=true:=hq.imp (fun h=>h) (fun h=>by simp only[quiet,Bool.and_eq_true] at h;exact h.2)
   have hv:=hf.opd x (fun _ _ h=>h)
   unfold qy at h
   split at h
   ·rename_i e;rw[e] at hv;exact wpIn_cond_true hv.bool (ih b fr s r h ro N hN hc.1 hq1 ι a w hf hH)
   ·rename_i e;rw[e] at hv;exact wpIn_cond_false hv.bool (ih c fr s r h ro N hN hc.2 hq2 ι a w hf hH)
   ·cases h
  ·rename_i id b
   have hq1:ro=none∨quiet b=true:=hq.imp (fun h=>h) (fun h=>by simpa[quiet] using h)
   refine wpIn_block ?_
   unfold mI at h
   split at h
   ·rename_i j fr' s' he
    split at h
    ·rename_i hj
     cases h
     have hj:=Nat.beq_eq.mp hj
     subst hj
     refine wpIn_mono (ih b fr s _ he ro N hN hc hq1 ι a w hf hH) fun e a' w' ⟨κ,g1,g2,g3,g4⟩=>?_
     cases e<;>simp only at g4
     subst g4
     simp only[Exit.inBlock,if_true]
     exact⟨κ,g1,g2,g3,trivial⟩
    ·rename_i hj
     cases h
     refine wpIn_mono (ih b fr s _ he ro N hN hc hq1 ι a w hf hH) fun e a' w' ⟨κ,g1,g2,g3,g4⟩=>?_
     cases e<;>simp only at g4
     subst g4
     have:j≠id:=fun e=>by rw[e] at hj;simp at hj
     simp only[Exit.inBlock,this,if_false]
     exact⟨κ,g1,g2,g3,rfl⟩
   ·rename_i hne
    obtain⟨x,fr',s'⟩:=r
    refine wpIn_mono (ih b fr s _ h ro N hN hc hq1 ι a w hf hH) fun e a' w' hp=>?_
    cases e
    case exit j=>
     obtain⟨κ,g1,g2,g3,g4⟩:=hp
     cases x<;>simp only at g4
     exact absurd h (hne _ _ _)
    all_goals exact hp
  ·rename_i b
   have hq1:ro=none∨quiet b=true:=hq.imp (fun h=>h) (fun h=>by simpa[quiet] using h)
   exact wpIn_loop_rounds (n+1) (loops b fr s r h ro N hN hc hq1 ι s w ι a w hf hH (Ext.refl _ _ _))
  ·cases h;exact wpIn_exit ⟨ι,hf,hH,Ext.refl _ _ _,rfl⟩
  ·rename_i b
   have hq1:ro=none∨quiet b=true:=hq.imp (fun h=>h) (fun h=>by simpa[quiet] using h)
   refine qb (wpIn_mono (ih b fr s r h ro N hN hc hq1 ι a w hf hH) fun e a' w' hp=>?_)
   cases e
   case goto l=>
    obtain⟨κ,g1,g2,g3,g4⟩:=hp
    obtain⟨x,fr',s'⟩:=r
    cases x<;>simp only at g4
   all_goals exact hp
  ·cases h;exact wpIn_ret ⟨ι,hf,hH,Ext.refl _ _ _,trivial⟩
  ·cases h
  ·cases h
  ·rename_i g ps QE bd
   rcases hq with rfl|hq
   ·simp only[dg,Bool.and_eq_true] at hc
    obtain⟨⟨hca,hcb⟩,⟨hqa,hqb⟩,hps⟩:=hc
    exact F1 hX hF ih h hN hca hcb hqa hqb (fun p hp=>by simpa[Nat.blt_eq] using List.all_eq_true.mp hps p hp) hf hH
   ·simp[quiet] at hq
end
end Go.Am
end
section
namespace Go.Am
theorem kO {P:Program}{X:Ctx}(hX:dC P X)(hF:∀f fn,X.fns.get f=some fn→qN fn=true){own:bk}(ho:oI P own)(n:Nat){f:FuncId}{args:List AV}{s:St}{r:CR}(h:jr X own n f args s=some r){ι:Inj}{w:World}{cargs:Array Value}(hv:VRs ι args cargs.toList)(hH:HR P ι s w):(callFunc f cargs).run P w= .ok (.enter f cargs) w∧CallsIn (FE P none) 0 P f cargs w (tN P ι s w r):=
 gY hX hF (IN hX hF ho n).1 h hv hH
def Pk:bk:=fun _=>none
theorem G6 (P:Program):oI P Pk:=fun _ _ h=>by cases h
theorem Jh {P:Program}{eqs:List TypeId}(h:P.funcs.toList.all qN=true):∀f fn,(Ctx.of P eqs).fns.get f=some fn→qN fn=true:=fun f fn hf=>
 List.all_eq_true.mp h fn (by rw[Array.mem_toList_iff];exact Array.mem_of_getElem? (IE hf))
def St.nil:St:={h:= .e,nx:=0,gl:= .e,sh:=[]}
theorem HR.nil {P:Program}(w:World):HR P Inj.nil St.nil w:=⟨fun _ _ h=>(Tr.PG h).elim,fun _ _ _ h=>(by cases h),fun _ _ h=>(by cases h),fun _ _ _ _ h=>(by cases h),fun _ _ _ _ _ _ _ h=>(by cases h)⟩
def nB (w w':World):Prop:=Kin w w'∧w.heap.size≤w'.heap.size∧∀cb,cb<w.heap.size→w'.heap[cb]? =w.heap[cb]?
theorem yN {P:Program}{X:Ctx}(hX:dC P X)(hF:∀f fn,X.fns.get f=some fn→qN fn=true){own:bk}(ho:oI P own){n:Nat}{f:FuncId}{args:List AV}{v:AV}{s':St}
  (h:jr X own n f args St.nil=some (.ret v s')){w:World}{cargs:Array Value}(hv:VRs Inj.nil args cargs.toList):
  (callFunc f cargs).run P w= .ok (.enter f cargs) w∧Calls P f cargs w fun e w'=>∃cv κ,e= .returned cv∧VR κ v cv∧HR P κ s' w'∧nB w w':=by
 have hno:∀cb,¬Own Inj.nil St.nil cb:=fun cb ⟨b,d,ab,h,_⟩=>by cases h
 obtain⟨h1,h2⟩:=kO hX hF ho n h hv (HR.nil w)
 refine⟨h1,Calls.mono (BV h2) fun e w' he=>?_⟩
 cases e with
 |returned cv=>
  obtain⟨v',s'',e,κ,g1,g2,g3⟩:=he
  cases e
  exact⟨cv,κ,rfl,g1,g2,g3.kin,g3.size,fun cb hcb=>(g3.iV cb hcb (hno cb)).1⟩
 |panicked c=>obtain⟨v',s'',e,_⟩:=he;cases e
 |outgrown=>exact he.elim
end Go.Am
end
section
namespace Go.Am
open Go.WideShapes Go.ChangeShapes
theorem nB.refl (w:World):nB w w:=⟨Kin.refl w,Nat.le_refl _,fun _ _=>rfl⟩
theorem nB.trans {w v u:World}(h:nB w v)(h':nB v u):nB w u:=
 ⟨h.1.trans h'.1,Nat.le_trans h.2.1 h'.2.1,fun cb hcb=>(h'.2.2 cb (Nat.lt_of_lt_of_le hcb h.2.1)).trans (h.2.2 cb hcb)⟩
theorem nB.frozen {w v:World}(h:nB w v){a:Addr}(ha:a.block<w.heap.size):v.frozen? a=w.frozen? a:=by
 unfold World.frozen?
 rw[h.2.2 _ ha]
theorem nB.cell {w v:World}(h:nB w v){a:Addr}(ha:a.block<w.heap.size):v.cell? a=w.cell? a:=by
 unfold World.cell?
 rw[h.2.2 _ ha]
theorem nB.kept {w v:World}(h:nB w v)(may:MemPlace→Prop):w.keptBut v may:=by
 refine⟨h.1.1,h.1.2,fun i hi=>?_⟩
 rw[h.2.2 i hi]
 cases ho:w.heap[i]? with
 |none=>trivial
 |some o=>
  cases o with
  |cells c t fr=>exact⟨rfl,rfl,rfl,fun _ _=>rfl⟩
  |map es clock=>exact .inr ⟨rfl,rfl⟩
  | _=>rfl
section
variable {H:Type}{enc:TypeId×Value→H}{P:Program}
theorem sq {f:Func}{s:ChangeSpec}{apart fresh handsOn again:Bool}{W W':World}{args:Array Value}{v:Value}{ds gs:List (DataW H)}{before pa pv:List MemPlace}
  (hW:DataW.Whole enc P f.params.toList s.vars apart W args.toList ds gs before)
  (hres:∀ (b:Nat) (sp:Nat→Bool) (hd:Bool),DataW.TrodAll enc P W' b sp hd f.resultTypes.toList (v.resultList f.resultTypes.size) (s.fn H (ds++gs)).results [])
  (hargs:∀sp:Nat→Bool,(∀p∈before,sp p.block=true)→DataW.TrodAll enc P W' 0 sp true f.params.toList args.toList (s.fn H (ds++gs)).args pa)
  (hvars:∀sp:Nat→Bool,(∀p∈before,sp p.block=true)→DataW.TrodVars enc P W' sp s.vars (s.fn H (ds++gs)).vars pv)
  (hps:before=pa++pv)(hg:nB W W')
  (hok:∀ (j:Nat) (t:TypeId) (r:Value),f.resultTypes[j]? =some t→(v.resultList f.resultTypes.size)[j]? =some r→Value.okWide P W' .any 0 t r):
  s.post enc P f apart fresh handsOn again W args v W':=by
 have hlt:∀p∈before,p.block<W.heap.size:=fun p hp=>by simpa using hW.lt p hp
 have hold:∀p∈before,(fun b=>decide (b<W.heap.size)) p.block=true:=fun p hp=>by simpa using hW.lt p hp
 refine⟨ds,gs,before,[],pa,pv,hW,hres _ _ _,hargs _ hold,hvars _ hold,World.keptBut_mono (fun p hp=>⟨hp,?_⟩) (hg.kept (· ∈before)),fun _=>?_⟩
 ·rw[hps,List.mem_append] at hp
  exact Or.inr hp
 ·obtain⟨_,_,_,_,_,hz,hn⟩:=hW
  refine⟨hok,_,_,([]++pa)++pv,⟨[]++pa,pv,trodAll_append (hargs _ (fun _ _=>rfl)) (hres _ _ _),hvars _ (fun _ _=>rfl),rfl,?_,?_⟩,?_⟩
  ·intro b off hp
   have hp':MemPlace.cell b off∈before:=by rw[hps];simpa using hp
   rw[hg.frozen (hlt _ hp')]
   exact hz b off hp'
  ·intro ha
   have:=hn ha
   rw[hps] at this
   simpa using this
  ·intro p hp _
   rw[hps]
   simpa using hp
end
def isTrue:Option CR→Bool
 |some (.ret (.bool true) _)=>true
 | _=>false
theorem wF {P:Program}{X:Ctx}(hX:dC P X)(hF:∀f fn,X.fns.get f=some fn→qN fn=true){own:bk}(ho:oI P own){n:Nat}{f:FuncId}{args:List AV}
  (h:isTrue (jr X own n f args St.nil)=true){w:World}{cargs:Array Value}(hv:VRs Inj.nil args cargs.toList):
  Calls P f cargs w fun e w'=>e= .returned (.bool true)∧nB w w':=by
 unfold isTrue at h
 split at h
 ·rename_i s' he
  refine Calls.mono (yN hX hF ho he hv).2 fun e w' ⟨cv,κ,h1,h2,h3,h4⟩=>⟨?_,h4⟩
  rw[h1,h2.bool]
 ·cases h
end Go.Am
end
section
namespace Go.Am
open Go.WideShapes Go.ChangeShapes
section
variable {H:Type}{enc:TypeId×Value→H}{P:Program}
theorem lB {w:World}{base:Nat}{spare:Nat→Bool}{held:Bool}:∀ {ts:List TypeId} {vs:List Value} {ds:List (DataW H)} {ps:List MemPlace},DataW.TrodAll enc P w base spare held ts vs ds ps→ts.length=vs.length
 |[],[],[],_,_=>rfl
 |[],[],_::_,_,h=>by simp[DataW.TrodAll] at h
 |[],_::_,_,_,h=>by simp[DataW.TrodAll] at h
 | _::_,[],_,_,h=>by simp[DataW.TrodAll] at h
 | _::_,_::_,[],_,h=>by simp[DataW.TrodAll] at h
 |t::ts,v::vs,d::ds,ps,h=>by
  obtain⟨p,q,_,h2,_⟩:=h
  simp[lB h2]
theorem j0 {w:World}{base:Nat}{spare:Nat→Bool}{held:Bool}:∀ {ts:List TypeId} {vs:List Value} {ds:List (DataW H)} {ps:List MemPlace},DataW.TrodAll enc P w base spare held ts vs ds ps→ts.length=ds.length
 |[],[],[],_,_=>rfl
 |[],[],_::_,_,h=>by simp[DataW.TrodAll] at h
 |[],_::_,_,_,h=>by simp[DataW.TrodAll] at h
 | _::_,[],_,_,h=>by simp[DataW.TrodAll] at h
 | _::_,_::_,[],_,h=>by simp[DataW.TrodAll] at h
 |t::ts,v::vs,d::ds,ps,h=>by
  obtain⟨p,q,_,h2,_⟩:=h
  simp[j0 h2]
theorem nB.same {W W':World}(hg:nB W W'){p:MemPlace}(hp:p.block<W.heap.size):W.sameAt W' p:=by
 cases p<;>simp only[World.sameAt,MemPlace.block] at hp ⊢ <;>first
  |(rw[hg.cell hp];done)
  |(unfold World.cell?;rw[hg.2.2 _ hp];done)
  |(rw[hg.2.2 _ hp];done)
theorem nM (hl:laidOutB P=true){W W':World}(hg:nB W W'){sp:Nat→Bool}:∀ {ts:List TypeId} {vs:List Value} {ds:List (DataW H)} {ps:List MemPlace},(ts.all fun t=>P.readableRec t&&decide (t<P.types.size))=true→
  DataW.TrodAll enc P W 0 (fun _=>true) true ts vs ds ps→(∀p∈ps,p.block<W.heap.size)→(∀p∈ps,sp p.block=true)→DataW.TrodAll enc P W' 0 sp true ts vs ds ps
 |[],[],[],ps,_,h,_,_=>h
 |[],[],_::_,_,_,h,_,_=>by simp[DataW.TrodAll] at h
 |[],_::_,_,_,_,h,_,_=>by simp[DataW.TrodAll] at h
 | _::_,[],_,_,_,h,_,_=>by simp[DataW.TrodAll] at h
 | _::_,_::_,[],_,_,h,_,_=>by simp[DataW.TrodAll] at h
 |t::ts,v::vs,d::ds,ps,ht,h,hlt,hsp=>by
  obtain⟨p,q,h1,h2,rfl⟩:=h
  simp only[List.all_cons,Bool.and_eq_true,decide_eq_true_eq] at ht
  refine⟨p,q,WideElems.Trod_stays hl ht.1.1 ht.1.2 h1 (fun x hx=>hg.same (hlt x (by simp[hx]))) (fun x hx=>hsp x (by simp[hx])),nM hl hg (by simpa using ht.2) h2 (fun x hx=>hlt x (by simp[hx])) (fun x hx=>hsp x (by simp[hx])),rfl⟩
end
end Go.Am
end
section
namespace Go.Proofs.Ytofohkdkpbigiaa
open Go.Am
set_option maxRecDepth 100000
def eqT:List Nat:=[28,77,93]
theorem LL:eqT.all (fun t=> !Try.prog.stoodInHeld t&& !Try.prog.eqGuardType Try.prog.depth t)=true:=by kernel_rfl
theorem DQ {a:Nat}:∀ {l:List Nat},du a l=true→a∈l
 |[],h=>by simp[du] at h
 |b::l,h=>by
  simp only[du] at h
  split at h
  ·rename_i e;rw[Nat.eq_of_beq_eq_true e];simp
  ·exact List.mem_cons_of_mem _ (DQ h)
theorem eqs:∀t,du t eqT=true→Try.prog.stoodInHeld t=false∧Try.prog.eqGuardType Try.prog.depth t=false:=by
 intro t h
 have:=List.all_eq_true.mp LL t (DQ h)
 simpa using this
theorem ctx:dC Try.prog (Ctx.of Try.prog eqT):=dC.of eqs (by kernel_rfl)
theorem fns:Try.prog.funcs.toList.all qN=true:=by decide+kernel
noncomputable def X:Ctx:=Ctx.of Try.prog eqT
theorem lS:X.und 2=some (.int .i64):=by kernel_rfl
theorem jl:X.size 2=some 1:=by kernel_rfl
theorem ML:X.zero 2=some (.int .i64 (0)):=by kernel_rfl
theorem Nc:X.elem 2=some 1:=by kernel_rfl
theorem aJ:X.und 3=some (.int .i64):=by kernel_rfl
theorem ay:X.size 3=some 1:=by kernel_rfl
theorem zu:X.zero 3=some (.int .i64 (0)):=by kernel_rfl
theorem M3:X.elem 3=some 1:=by kernel_rfl
theorem nf:X.und 4=some .bool:=by kernel_rfl
theorem eI:X.size 4=some 1:=by kernel_rfl
theorem IV:X.zero 4=some (.bool false):=by kernel_rfl
theorem MF:X.elem 4=some 1:=by kernel_rfl
theorem gT:X.und 5=some (.int .u8):=by kernel_rfl
theorem qw:X.size 5=some 1:=by kernel_rfl
theorem zQ:X.zero 5=some (.int .u8 (0)):=by kernel_rfl
theorem sW:X.elem 5=some 1:=by kernel_rfl
theorem aE:X.und 9=some .string:=by kernel_rfl
theorem aF:X.size 9=some 1:=by kernel_rfl
theorem wP:X.zero 9=some (.str ⟨0,0⟩):=by kernel_rfl
theorem GM:X.elem 9=some 1:=by kernel_rfl
theorem CZ:X.und 20=some (.interface #[]):=by kernel_rfl
theorem KF:X.size 20=some 1:=by kernel_rfl
theorem JZ:X.zero 20=some (.nilIface):=by kernel_rfl
theorem L5:X.elem 20=some 1:=by kernel_rfl
theorem ma:X.und 22=some (.pointer 60):=by kernel_rfl
theorem kH:X.size 22=some 1:=by kernel_rfl
theorem K5:X.zero 22=some (.ptr none):=by kernel_rfl
theorem LJ:X.elem 22=some 1:=by kernel_rfl
theorem ou:X.und 23=some (.int .i64):=by kernel_rfl
theorem eB:X.size 23=some 1:=by kernel_rfl
theorem D4:X.zero 23=some (.int .i64 (0)):=by kernel_rfl
theorem Kf:X.elem 23=some 1:=by kernel_rfl
theorem nW:X.und 28=some (.struct #[⟨"Client",3,0,false,"","",0⟩,⟨"Seq",3,1,false,"","",8⟩,⟨"Time",3,2,false,"","",16⟩,⟨"Code",3,3,false,"","",24⟩]):=by kernel_rfl
theorem jc:X.size 28=some 4:=by kernel_rfl
theorem pO:X.zero 28=some (.agg [.int .i64 (0), .int .i64 (0), .int .i64 (0), .int .i64 (0)]):=by kernel_rfl
theorem DZ:X.elem 28=some 4:=by kernel_rfl
theorem wX:X.und 31=some (.struct #[⟨"Time",3,0,false,"","",0⟩,⟨"Data",9,1,false,"","",8⟩]):=by kernel_rfl
theorem zm:X.size 31=some 2:=by kernel_rfl
theorem zO:X.zero 31=some (.agg [.int .i64 (0), .str ⟨0,0⟩]):=by kernel_rfl
theorem KB:X.elem 31=some 2:=by kernel_rfl
theorem lx:X.und 34=some (.struct #[⟨"Key",9,0,false,"","",0⟩,⟨"Val",9,1,false,"","",16⟩,⟨"Del",4,2,false,"","",32⟩]):=by kernel_rfl
theorem ct:X.size 34=some 3:=by kernel_rfl
theorem jE:X.zero 34=some (.agg [.str ⟨0,0⟩, .str ⟨0,0⟩, .bool false]):=by kernel_rfl
theorem D6:X.elem 34=some 3:=by kernel_rfl
theorem cM:X.und 35=some (.slice 34):=by kernel_rfl
theorem ft:X.size 35=some 1:=by kernel_rfl
theorem Lp:X.zero 35=some (.slc none 0 0 true):=by kernel_rfl
theorem JL:X.elem 35=some 1:=by kernel_rfl
theorem dK:X.und 36=some (.slice 9):=by kernel_rfl
theorem fu:X.size 36=some 1:=by kernel_rfl
theorem K7:X.zero 36=some (.slc none 0 0 true):=by kernel_rfl
theorem LY:X.elem 36=some 1:=by kernel_rfl
theorem fq:X.und 37=some (.slice 42):=by kernel_rfl
theorem fi:X.size 37=some 1:=by kernel_rfl
theorem LD:X.zero 37=some (.slc none 0 0 true):=by kernel_rfl
theorem Lk:X.elem 37=some 1:=by kernel_rfl
theorem fS:X.und 38=some (.slice 74):=by kernel_rfl
theorem gX:X.size 38=some 1:=by kernel_rfl
theorem JE:X.zero 38=some (.slc none 0 0 true):=by kernel_rfl
theorem LZ:X.elem 38=some 1:=by kernel_rfl
theorem bY:X.und 40=some (.struct #[⟨"Kind",3,0,false,"","",0⟩,⟨"Client",3,1,false,"","",8⟩,⟨"Seq",3,2,false,"","",16⟩,⟨"Snap",3,3,false,"","",24⟩,⟨"Keys",36,4,false,"","",32⟩,⟨"Ranges",37,5,false,"","",56⟩,⟨"Writes",35,6,false,"","",80⟩,⟨"Deadline",3,7,false,"","",104⟩,⟨"After",3,8,false,"","",112⟩,⟨"Held",3,9,false,"","",120⟩,⟨"Text",9,10,false,"","",128⟩,⟨"Code",3,11,false,"","",144⟩,⟨"Rows",38,12,false,"","",152⟩]):=by kernel_rfl
theorem cD:X.size 40=some 13:=by kernel_rfl
theorem iW:X.zero 40=some (.agg [.int .i64 (0), .int .i64 (0), .int .i64 (0), .int .i64 (0), .slc none 0 0 true, .slc none 0 0 true, .slc none 0 0 true, .int .i64 (0), .int .i64 (0), .int .i64 (0), .str ⟨0,0⟩, .int .i64 (0), .slc none 0 0 true]):=by kernel_rfl
theorem JQ:X.elem 40=some 13:=by kernel_rfl
theorem qH:X.und 42=some (.struct #[⟨"Lo",9,0,false,"","",0⟩,⟨"Hi",9,1,false,"","",16⟩]):=by kernel_rfl
theorem gm:X.size 42=some 2:=by kernel_rfl
theorem sv:X.zero 42=some (.agg [.str ⟨0,0⟩, .str ⟨0,0⟩]):=by kernel_rfl
theorem El:X.elem 42=some 2:=by kernel_rfl
theorem dw:X.und 44=some (.pointer 73):=by kernel_rfl
theorem dp:X.size 44=some 1:=by kernel_rfl
theorem LI:X.zero 44=some (.ptr none):=by kernel_rfl
theorem Ji:X.elem 44=some 1:=by kernel_rfl
theorem uA:X.size 47=some 1:=by kernel_rfl
theorem JH:X.zero 47=some (.nilFunc):=by kernel_rfl
theorem K6:X.elem 47=some 1:=by kernel_rfl
theorem bF:X.und 52=some (.slice 93):=by kernel_rfl
theorem bK:X.size 52=some 1:=by kernel_rfl
theorem sE:X.zero 52=some (.slc none 0 0 true):=by kernel_rfl
theorem sN:X.elem 52=some 1:=by kernel_rfl
theorem sX:X.und 57=some (.map 3 104):=by kernel_rfl
theorem pI:X.size 57=some 1:=by kernel_rfl
theorem JV:X.zero 57=some (.map none):=by kernel_rfl
theorem L2:X.elem 57=some 1:=by kernel_rfl
theorem sR:X.und 58=some (.slice 28):=by kernel_rfl
theorem rM:X.size 58=some 1:=by kernel_rfl
theorem JO:X.zero 58=some (.slc none 0 0 true):=by kernel_rfl
theorem Jq:X.elem 58=some 1:=by kernel_rfl
theorem qL:X.und 60=some (.struct #[⟨"room",3,0,false,"","falsework/apply",0⟩,⟨"time",3,1,false,"","falsework/apply",8⟩,⟨"store",44,2,false,"","falsework/apply",16⟩,⟨"dones",58,3,false,"","falsework/apply",24⟩,⟨"last",57,4,false,"","falsework/apply",48⟩]):=by kernel_rfl
theorem LC:X.size 60=some 5:=by kernel_rfl
theorem Ey:X.zero 60=some (.agg [.int .i64 (0), .int .i64 (0), .ptr none, .slc none 0 0 true, .map none]):=by kernel_rfl
theorem Kr:X.elem 60=some 5:=by kernel_rfl
theorem ie:X.und 67=some (.slice 69):=by kernel_rfl
theorem ze:X.size 67=some 1:=by kernel_rfl
theorem Ew:X.zero 67=some (.slc none 0 0 true):=by kernel_rfl
theorem Ls:X.elem 67=some 1:=by kernel_rfl
theorem j9:X.und 69=some (.struct #[⟨"time",3,0,false,"","falsework/store",0⟩,⟨"val",9,1,false,"","falsework/store",8⟩,⟨"gone",4,2,false,"","falsework/store",24⟩]):=by kernel_rfl
theorem eN:X.size 69=some 3:=by kernel_rfl
theorem sw:X.zero 69=some (.agg [.int .i64 (0), .str ⟨0,0⟩, .bool false]):=by kernel_rfl
theorem yZ:X.elem 69=some 3:=by kernel_rfl
theorem bU:X.und 70=some (.slice 52):=by kernel_rfl
theorem jC:X.size 70=some 1:=by kernel_rfl
theorem Js:X.zero 70=some (.slc none 0 0 true):=by kernel_rfl
theorem La:X.elem 70=some 1:=by kernel_rfl
theorem ej:X.und 71=some (.map 9 67):=by kernel_rfl
theorem dZ:X.size 71=some 1:=by kernel_rfl
theorem JM:X.zero 71=some (.map none):=by kernel_rfl
theorem LX:X.elem 71=some 1:=by kernel_rfl
theorem qJ:X.und 73=some (.struct #[⟨"room",3,0,false,"","falsework/store",0⟩,⟨"size",3,1,false,"","falsework/store",8⟩,⟨"last",3,2,false,"","falsework/store",16⟩,⟨"keys",70,3,false,"","falsework/store",24⟩,⟨"all",71,4,false,"","falsework/store",48⟩]):=by kernel_rfl
theorem Jx:X.size 73=some 5:=by kernel_rfl
theorem DC:X.zero 73=some (.agg [.int .i64 (0), .int .i64 (0), .int .i64 (0), .slc none 0 0 true, .map none]):=by kernel_rfl
theorem Kh:X.elem 73=some 5:=by kernel_rfl
theorem jz:X.und 74=some (.slice 77):=by kernel_rfl
theorem fJ:X.size 74=some 1:=by kernel_rfl
theorem DU:X.zero 74=some (.slc none 0 0 true):=by kernel_rfl
theorem Ed:X.elem 74=some 1:=by kernel_rfl
theorem eU:X.und 75=some (.int .u64):=by kernel_rfl
theorem gi:X.size 75=some 1:=by kernel_rfl
theorem LO:X.zero 75=some (.int .u64 (0)):=by kernel_rfl
theorem JI:X.elem 75=some 1:=by kernel_rfl
theorem fH:X.und 77=some (.struct #[⟨"Kind",3,0,false,"","",0⟩,⟨"N",2,1,false,"","",8⟩,⟨"F",75,2,false,"","",16⟩,⟨"S",9,3,false,"","",24⟩]):=by kernel_rfl
theorem dL:X.size 77=some 4:=by kernel_rfl
theorem nR:X.zero 77=some (.agg [.int .i64 (0), .int .i64 (0), .int .u64 (0), .str ⟨0,0⟩]):=by kernel_rfl
theorem DG:X.elem 77=some 4:=by kernel_rfl
theorem NV:X.und 82=some (.pointer 85):=by kernel_rfl
theorem J3:X.size 82=some 1:=by kernel_rfl
theorem LS:X.zero 82=some (.ptr none):=by kernel_rfl
theorem KQ:X.elem 82=some 1:=by kernel_rfl
theorem cJ:X.und 83=some (.slice 5):=by kernel_rfl
theorem cP:X.size 83=some 1:=by kernel_rfl
theorem KH:X.zero 83=some (.slc none 0 0 true):=by kernel_rfl
theorem Lt:X.elem 83=some 1:=by kernel_rfl
theorem Cn:X.und 85=some (.struct #[⟨"B",83,0,false,"","",0⟩]):=by kernel_rfl
theorem J9:X.size 85=some 1:=by kernel_rfl
theorem Eu:X.zero 85=some (.agg [.slc none 0 0 true]):=by kernel_rfl
theorem Lx:X.elem 85=some 1:=by kernel_rfl
theorem py:X.und 93=some (.struct #[⟨"Key",9,0,false,"","",0⟩,⟨"Val",9,1,false,"","",16⟩]):=by kernel_rfl
theorem bX:X.size 93=some 2:=by kernel_rfl
theorem mG:X.zero 93=some (.agg [.str ⟨0,0⟩, .str ⟨0,0⟩]):=by kernel_rfl
theorem nN:X.elem 93=some 2:=by kernel_rfl
theorem MA:X.und 96=some (.pointer 100):=by kernel_rfl
theorem Lz:X.size 96=some 1:=by kernel_rfl
theorem Lc:X.zero 96=some (.ptr none):=by kernel_rfl
theorem LM:X.elem 96=some 1:=by kernel_rfl
theorem CM:X.und 98=some (.struct #[⟨"s",9,0,false,"","falsework/cmd",0⟩]):=by kernel_rfl
theorem zg:X.size 98=some 1:=by kernel_rfl
theorem DV:X.zero 98=some (.agg [.str ⟨0,0⟩]):=by kernel_rfl
theorem Lm:X.elem 98=some 1:=by kernel_rfl
theorem Ac:X.und 100=some (.struct #[⟨"cursor",98,0,true,"","falsework/cmd",0⟩]):=by kernel_rfl
theorem GC:X.size 100=some 1:=by kernel_rfl
theorem AE:X.zero 100=some (.agg [.str ⟨0,0⟩]):=by kernel_rfl
theorem It:X.elem 100=some 1:=by kernel_rfl
theorem uF:X.und 104=some (.struct #[⟨"seq",3,0,false,"","falsework/apply",0⟩,⟨"code",3,1,false,"","falsework/apply",8⟩]):=by kernel_rfl
theorem AJ:X.size 104=some 2:=by kernel_rfl
theorem pA:X.zero 104=some (.agg [.int .i64 (0), .int .i64 (0)]):=by kernel_rfl
theorem GK:X.elem 104=some 2:=by kernel_rfl
theorem sH:X.und 110=some (.int .u32):=by kernel_rfl
theorem G8:X.size 110=some 1:=by kernel_rfl
theorem HJ:X.zero 110=some (.int .u32 (0)):=by kernel_rfl
theorem G5:X.elem 110=some 1:=by kernel_rfl
theorem zM:X.und 112=some (.int .u64):=by kernel_rfl
theorem Ja:X.size 112=some 1:=by kernel_rfl
theorem HX:X.zero 112=some (.int .u64 (0)):=by kernel_rfl
theorem Gn:X.elem 112=some 1:=by kernel_rfl
theorem JP:X.und 118=some (.pointer 120):=by kernel_rfl
theorem Hy:X.size 118=some 1:=by kernel_rfl
theorem HL:X.zero 118=some (.ptr none):=by kernel_rfl
theorem IB:X.elem 118=some 1:=by kernel_rfl
theorem zZ:X.und 120=some (.struct #[⟨"b",83,0,false,"","falsework/cmd",0⟩]):=by kernel_rfl
theorem Ht:X.size 120=some 1:=by kernel_rfl
theorem Ax:X.zero 120=some (.agg [.slc none 0 0 true]):=by kernel_rfl
theorem HT:X.elem 120=some 1:=by kernel_rfl
theorem sL:X.und 124=some (.struct #[⟨"bad",47,0,false,"","falsework/apply",0⟩,⟨"code",23,1,false,"","falsework/apply",8⟩]):=by kernel_rfl
theorem pc:X.size 124=some 2:=by kernel_rfl
theorem sx:X.zero 124=some (.agg [.nilFunc, .int .i64 (0)]):=by kernel_rfl
theorem Jc:X.elem 124=some 2:=by kernel_rfl
theorem uM:X.und 126=some (.slice 124):=by kernel_rfl
theorem IT:X.size 126=some 1:=by kernel_rfl
theorem HY:X.zero 126=some (.slc none 0 0 true):=by kernel_rfl
theorem Je:X.elem 126=some 1:=by kernel_rfl
theorem zC:X.und 132=some (.struct #[]):=by kernel_rfl
theorem GO:X.size 132=some 0:=by kernel_rfl
theorem AL:X.zero 132=some (.agg []):=by kernel_rfl
theorem mB:X.und 134=some (.slice 3):=by kernel_rfl
theorem Hm:X.size 134=some 1:=by kernel_rfl
theorem G7:X.zero 134=some (.slc none 0 0 true):=by kernel_rfl
theorem HM:X.elem 134=some 1:=by kernel_rfl
theorem J1:X.und 144=some (.pointer 98):=by kernel_rfl
theorem GV:X.size 144=some 1:=by kernel_rfl
theorem I8:X.zero 144=some (.ptr none):=by kernel_rfl
theorem Ig:X.elem 144=some 1:=by kernel_rfl
end Go.Proofs.Ytofohkdkpbigiaa
end
section
namespace Go.Am
noncomputable section
def nz (c:Nat):Nat:=match Nat.beq (Nat.mod c 2) 1 with
 |true=>Nat.xor (Nat.div c 2) 2197175160
 |false=>Nat.div c 2
def gH:Nat→Nat→Nat
 |0,c=>c
 |j+1,c=>kN (nz c) fun c=>gH j c
def uc (x:Str):Nat→Nat→Nat→Nat
 |0,_,c=>c
 |n+1,i,c=>kN (gH 8 (Nat.xor c (x.at i))) fun c=>kN (i+1) fun i=>uc x n i c
def Bk (x:Str):Nat:=uc x x.len 0 4294967295
def mQ:List AV→St→Option CR
 |[.str x],s=>match Nat.ble x.len 1000000000 with
  |true=>some (.ret (.int .u32 (.ofNat (Nat.xor 4294967295 (Bk x)))) s)
  |false=>none
 | _,_=>none
def pF:List AV→St→Option CR
 |[.int .u64 (.ofNat n)],s=>some (.ret (.flt .f64 n) s)
 | _,_=>none
end
end Go.Am
end
section
namespace Go.Am
noncomputable section
abbrev R:=Option (EX×Fr×St)
def OX (X:Ctx)(call:dh)(o:Oper)(fr:Fr)(s:St)(k:Fr→St→R):R:=iS k (mg call fr o.dst s (fQ X o fr s))
abbrev H:=Ctx→dh→Oper→Fr→St→(Fr→St→R)→R
section lemmas
variable {X:Ctx}{call:dh}{o:Oper}{fr:Fr}{s:St}{k:Fr→St→R}
end lemmas
abbrev VH:=Ctx→Fr→St→(AV→R)→R→R
def v0:VH:=fun _ _ _ _ d=>d
def h0:H:=OX
end
end Go.Am
end
section
namespace Go.Am
section
variable {X:Ctx}{call:dh}{o:Oper}{fr:Fr}{s:St}{k:AV→R}{d:R}
def VR2 (X:Ctx)(o:Oper)(fr:Fr)(s:St)(k:AV→R)(d r:R):Prop:=r=d∨∃u,(fQ X o fr s=some (.old u)∨fQ X o fr s=some (.pure u))∧r=k u
theorem VR2.no:VR2 X o fr s k d d:= .inl rfl
theorem VR2.old {u:AV}(h:fQ X o fr s=some (.old u)):VR2 X o fr s k d (k u):= .inr ⟨u, .inl h,rfl⟩
theorem VR2.pure {u:AV}(h:fQ X o fr s=some (.pure u)):VR2 X o fr s k d (k u):= .inr ⟨u, .inr h,rfl⟩
end
end Go.Am
end
section
namespace Go.Am
noncomputable section
inductive DS where
 |take (i:Nat) (o:Oper)
 |act (i:Nat) (o:Oper)
 |stop
def fN:List (Nat×Oper)→Nat→List DS×Nat
 |[],done=>([],done)
 |io::rest,done=>match rS done io.1 io.2 with
  |false=>fN rest done
  |true=>(.take io.1 io.2::(fN rest (Nat.lor done (Nat.pow 2 io.1))).1,(fN rest (Nat.lor done (Nat.pow 2 io.1))).2)
def oe (l:List (Nat×Oper)):Nat→Nat→List DS
 |0,_=>[.stop]
 |f+1,done=>(fN l done).1++match gA l (fN l done).2 with
  |[]=>[]
  |[io]=>match mi io.2 with
   |true=> .act io.1 io.2::oe l f (Nat.lor (fN l done).2 (Nat.pow 2 io.1))
   |false=>[.stop]
  | _=>[.stop]
def dY (X:Ctx)(ops:Array Oper)(i:Nat)(o:Oper)(pend:List bt)(fr:Fr)(s:St)(k:List bt→Fr→St→R):R:=match jX X i o fr s (bI ops fr o) with
 |some (p,fr,s)=>k (p::pend) fr s
 |none=>none
def ri (X:Ctx)(call:dh)(ops:Array Oper)(o:Oper)(pend:List bt)(fr:Fr)(s:St)(k:List bt→Fr→St→R):R:=match ed X call ops o fr s with
 |some (.go fr s)=>match(pend.filter fun p=> !bP o p.i).all (mT X ops fr s) with
  |true=>k (pend.filter fun p=> !bP o p.i) fr s
  |false=>none
 |some (.pan v fr s)=>some (.pan v,⟨.e,fr.d⟩,s)
 |none=>none
def oS (X:Ctx)(call:dh)(ops:Array Oper):List DS→List bt→Fr→St→R
 |[],_,fr,s=>some (.norm,fr,s)
 | .take i o::l,pend,fr,s=>dY X ops i o pend fr s (oS X call ops l)
 | .act _ o::l,pend,fr,s=>ri X call ops o pend fr s (oS X call ops l)
 | .stop::_,_,_,_=>none
theorem qK {X:Ctx}{call:dh}{ops:Array Oper}(k:Nat→List bt→Fr→St→R)(m:List DS):∀ (l:List (Nat×Oper)) (done:Nat) (pend:List bt) (fr:Fr) (s:St),
  (∀pend fr s,oS X call ops m pend fr s=k (fN l done).2 pend fr s)→kF X ops k l done pend fr s=oS X call ops ((fN l done).1++m) pend fr s
 |[],done,pend,fr,s,h=>(h pend fr s).symm
 |io::rest,done,pend,fr,s,h=>by
  unfold kF
  unfold fN at h ⊢
  cases hm:rS done io.1 io.2 with
  |false=>
   rw[hm] at h
   exact qK k m rest done pend fr s h
  |true=>
   rw[hm] at h
   show yU (kF X ops k rest) done io.1 pend (jX X io.1 io.2 fr s (bI ops fr io.2))=dY X ops io.1 io.2 pend fr s (oS X call ops ((fN rest (Nat.lor done (Nat.pow 2 io.1))).1++m))
   unfold yU dY
   cases jX X io.1 io.2 fr s (bI ops fr io.2) with
   |none=>rfl
   |some q=>
    obtain⟨p,fr,s⟩:=q
    simp only[pC]
    exact qK k m rest _ _ fr s h
theorem tf {X:Ctx}{call:dh}{ops:Array Oper}{l:List (Nat×Oper)}:∀ (f done:Nat) (pend:List bt) (fr:Fr) (s:St),nX X call ops l f done pend fr s=oS X call ops (oe l f done) pend fr s
 |0,_,_,_,_=>rfl
 |f+1,done,pend,fr,s=>by
  show kF X ops (fun done pend fr s=>Bt X call ops (nX X call ops l f) done pend fr s (gA l done)) l done pend fr s=_
  unfold oe
  refine qK _ _ l done pend fr s fun pend fr s=>?_
  show _=Bt X call ops (nX X call ops l f) (fN l done).2 pend fr s (gA l (fN l done).2)
  generalize gA l (fN l done).2=rl
  match rl with
  |[]=>rfl
  |[io]=>
   simp only[Bt]
   cases mi io.2 with
   |false=>rfl
   |true=>
    show ri X call ops io.2 pend fr s (oS X call ops (oe l f _))=DH X ops (nX X call ops l f) (fN l done).2 io.1 io.2 pend (ed X call ops io.2 fr s)
    unfold ri DH
    cases ed X call ops io.2 fr s with
    |none=>rfl
    |some pr=>
     cases pr with
     |pan v fr s=>rfl
     |go fr s=>
      simp only[pC]
      cases(pend.filter fun p=> !bP io.2 p.i).all (mT X ops fr s) with
      |false=>rfl
      |true=>exact(tf f _ _ fr s).symm
  | _::_::_=>rfl
end
end Go.Am
end
section
namespace Go.Am
def Le {α:Type}(a b:Option α):Prop:=∀r,a=some r→b=some r
theorem Le.refl {α:Type}(a:Option α):Le a a:=fun _ h=>h
theorem Le.trans {α:Type}{a b c:Option α}(h:Le a b)(h':Le b c):Le a c:=fun r e=>h' r (h r e)
theorem Le.none {α:Type}{b:Option α}:Le Option.none b:=fun _ h=>by cases h
theorem Le.bind {α β:Type}{a b:Option α}{f g:Option α→Option β}(h:Le a b)(h0:f Option.none=Option.none)(hf:∀r,Le (f (some r)) (g (some r))):Le (f a) (g b):=by
 cases a with
 |none=>rw[h0];exact Le.none
 |some r=>rw[h r rfl];exact hf r
def ur (e f:Ev):Prop:=∀c fr s,Le (e c fr s) (f c fr s)
def Io (e f:dh):Prop:=∀t args s,Le (e t args s) (f t args s)
section
variable {X:Ctx}{e f:Ev}{c d:dh}
theorem LK (h:Io c d)(fr:Fr)(dst:Option Nat)(s:St)(r:Option OR):Le (mg c fr dst s r) (mg d fr dst s r):=by
 match r with
 |none=>exact Le.refl _
 |some (.old _)=>exact Le.refl _
 |some (.pure _)=>exact Le.refl _
 |some (.val _ _)=>exact Le.refl _
 |some (.dfr _)=>exact Le.refl _
 |some (.pan _)=>exact Le.refl _
 |some (.call g args)=>
  simp only[mg,mz]
  exact Le.bind (f:=hU fr dst) (g:=hU fr dst) (h _ _ _) rfl fun _=>Le.refl _
 |some (.round b args)=>
  simp only[mg,mz]
  exact Le.bind (f:=hU fr dst) (g:=hU fr dst) (h _ _ _) rfl fun _=>Le.refl _
theorem Bz (h:Io c d)(ops:Array Oper)(o:Oper)(fr:Fr)(s:St):Le (ed X c ops o fr s) (ed X d ops o fr s):=by
 unfold ed
 cases bI ops fr o with
 |none=>exact Le.refl _
 |some b=>cases b with
  |false=>exact Le.refl _
  |true=>exact LK h _ _ _ _
theorem EI {k l:Fr→St→Option (EX×Fr×St)}(hk:∀fr s,Le (k fr s) (l fr s)){a b:Option PR}(h:Le a b):Le (iS k a) (iS l b):=
 Le.bind (f:=iS k) (g:=iS l) h rfl fun r=>by
  cases r with
  |go fr s=>exact hk fr s
  |pan v fr s=>exact Le.refl _
theorem qM (h:Io c d)(ops:Array Oper):∀ (l:List Oper) (fr:Fr) (s:St),Le (oc X c ops l fr s) (oc X d ops l fr s)
 |[],_,_=>Le.refl _
 |o::l,fr,s=>EI (qM h ops l) (Bz h ops o fr s)
theorem uY (h:Io c d)(ops:Array Oper):∀ (l:List DS) (p:List bt) (fr:Fr) (s:St),Le (oS X c ops l p fr s) (oS X d ops l p fr s)
 |[],_,_,_=>Le.refl _
 | .stop::_,_,_,_=>Le.refl _
 | .take i o::l,p,fr,s=>by
  show Le (dY X ops i o p fr s (oS X c ops l)) (dY X ops i o p fr s (oS X d ops l))
  unfold dY
  cases jX X i o fr s (bI ops fr o) with
  |none=>exact Le.refl _
  |some q=>exact uY h ops l _ _ _
 | .act i o::l,p,fr,s=>by
  show Le (ri X c ops o p fr s (oS X c ops l)) (ri X d ops o p fr s (oS X d ops l))
  unfold ri
  have h1:=Bz (X:=X) h ops o fr s
  cases ha:ed X c ops o fr s with
  |none=>exact Le.none
  |some r=>
   rw[h1 r ha]
   cases r with
   |pan v fr s=>exact Le.refl _
   |go fr s=>
    simp only
    cases(p.filter fun p=> !bP o p.i).all (mT X ops fr s) with
    |false=>exact Le.refl _
    |true=>exact uY h ops l _ _ _
theorem Cg (h:ur e f):∀ (c:Code) (m:DM) (fr:Fr) (s:St),Le (evS X e c m fr s) (evS X f c m fr s):=by
 have plain:∀ (c:Code) (m:DM) (fr:Fr) (s:St),Le (oz m (e c fr s)) (oz m (f c fr s)):=fun c m fr s=>
  Le.bind (f:=oz m) (g:=oz m) (h c fr s) rfl fun _=>Le.refl _
 intro c
 induction c with
 |seq a b iha ihb=>
  intro m fr s r hr
  simp only[evS] at hr ⊢
  cases ha:evS X e a m fr s with
  |none=>rw[ha] at hr;cases hr
  |some q=>
   rw[iha m fr s q ha]
   rw[ha] at hr
   obtain⟨x,fr1,s1,m1⟩:=q
   cases x with
   |norm=>exact ihb _ _ _ _ hr
   | _=>exact hr
 |region id ops draw=>
  intro m fr s
  simp only[evS]
  cases !draw&&ops.toList.any isRec with
  |true=>exact Le.refl _
  |false=>exact plain _ _ _ _
 | _=>intro m fr s;exact plain _ _ _ _
theorem C6 (h:ur e f)(d:qC)(m:DM)(s:St):Le (kM X e d m s) (kM X f d m s):=by
 unfold kM
 cases X.fns.get d.fn with
 |none=>exact Le.refl _
 |some fn=>
  simp only
  cases fn.body with
  |none=>exact Le.refl _
  |some c=>exact Le.bind (f:=z9 X fn) (g:=z9 X fn) (Cg h c m _ _) rfl fun _=>Le.refl _
theorem nr (h:ur e f)(fn:Func)(fr:Fr):∀ (l:List DE) (m:DM) (s:St),Le (leave X e fn fr l m s) (leave X f fn fr l m s)
 |[], .ret,_=>Le.refl _
 |[], .pan _,_=>Le.refl _
 |[], .rcv _,_=>Le.refl _
 | .fn d::ds,m,s=>by
  simp only[leave]
  have h1:=C6 (X:=X) h d m s
  cases ha:kM X e d m s with
  |none=>exact Le.none
  |some q=>rw[h1 q ha];exact nr h fn fr ds _ _
 | .mark b::ds,m,s=>by
  simp only[leave]
  cases tv b s (s.h.get b) with
  |none=>exact Le.refl _
  |some s=>exact nr h fn fr ds _ _
theorem G4 (h:ur e f)(fn:Func){a b:Option (EX×Fr×St)}(hab:Le a b):Le (rB X e fn a) (rB X f fn b):=
 Le.bind (f:=rB X e fn) (g:=rB X f fn) hab rfl fun r=>by
  obtain⟨x,fr,s⟩:=r
  cases x with
  |norm=>exact nr h _ _ _ _ _
  |ret=>exact nr h _ _ _ _ _
  |pan v=>exact nr h _ _ _ _ _
  |brk i=>exact Le.refl _
theorem oU (h:ur e f)(g:FuncId)(args:List AV)(s:St):Le (dy X e g args s) (dy X f g args s):=by
 unfold dy
 cases X.fns.get g with
 |none=>exact Le.refl _
 |some fn=>
  simp only
  cases fn.body with
  |none=>exact Le.refl _
  |some c=>exact G4 h fn (h c _ _)
theorem Cc (h:ur e f)(b:Nat)(args:List AV)(s:St):Le (mw e b args s) (mw f b args s):=by
 unfold mw Dy
 split
 ·rename_i t ps QE bd _
  show Le (xR e b QE bd s (jx ps args t)) (xR f b QE bd s (jx ps args t))
  unfold xR
  cases jx ps args t with
  |none=>exact Le.refl _
  |some t=>
   refine Le.bind (f:=nE e b bd) (g:=nE f b bd) (h QE _ _) rfl fun r=>?_
   obtain⟨x,fr,s⟩:=r
   cases x with
   |norm=>
    show Le (pL e b bd fr s (s.h.get b)) (pL f b bd fr s (s.h.get b))
    unfold pL
    split
    ·exact Le.bind (f:=rk b) (g:=rk b) (h bd _ _) rfl fun _=>Le.refl _
    ·exact Le.refl _
   | _=>exact Le.refl _
 ·exact Le.refl _
theorem Ci (h:ur e f)(ps:List Nat)(QE bd:Code)(fr:Fr)(s:St)(v:AV):Le (om X e ps QE bd fr s v) (om X f ps QE bd fr s v):=by
 unfold om
 split
 ·unfold rp
  simp only[mz,oF]
  refine Le.bind (f:=tE e fr _ _) (g:=tE f fr _ _) (oU h _ _ _) rfl fun r=>?_
  cases r with
  |pan v s=>exact Le.refl _
  |ret v s=>
   simp only[tE]
   unfold pV
   split
   ·exact Le.refl _
   ·rename_i c _
    cases vY c with
    |false=>exact Le.refl _
    |true=>exact h _ _ _
   ·exact Le.refl _
 ·exact Le.refl _
variable {own:bk}
theorem jv (h:ur e f):Io (cn X own e) (cn X own f):=fun t args s=>by
 cases t with
 |rnd b=>exact Cc h _ _ _
 |fn g=>
  show Le (fF X own e g args s) (fF X own f g args s)
  unfold fF
  cases own g with
  |some k=>exact Le.refl _
  |none=>exact oU h _ _ _
theorem Fe (h:ur e f):ur (ph X own e) (ph X own f):=fun c fr s=>by
 cases c with
 |skip=>exact Le.refl _
 |label _=>exact Le.refl _
 |region id ops draw=>
  simp only[ph,vz]
  cases draw with
  |false=>exact qM (jv h) _ _ _ _
  |true=>simp only[tf];exact uY (jv h) _ _ _ _ _
 |seq a b=>
  refine Le.bind (f:=my e b) (g:=my f b) (h a fr s) rfl fun r=>?_
  obtain⟨x,fr,s⟩:=r
  cases x with
  |norm=>exact h _ _ _
  | _=>exact Le.refl _
 |cond x a b=>
  show Le (qy e a b fr s (fr.opd x)) (qy f a b fr s (fr.opd x))
  unfold qy
  split
  ·exact h _ _ _
  ·exact h _ _ _
  ·exact Le.refl _
 |block id b=>exact Le.bind (f:=mI id) (g:=mI id) (h b fr s) rfl fun _=>Le.refl _
 |loop b=>
  refine Le.bind (f:=my e (.loop b)) (g:=my f (.loop b)) (h b fr s) rfl fun r=>?_
  obtain⟨x,fr,s⟩:=r
  cases x with
  |norm=>exact h _ _ _
  | _=>exact Le.refl _
 |exit _=>exact Le.refl _
 |scope b=>exact h _ _ _
 |ret=>exact Le.refl _
 |goto _=>exact Le.refl _
 |refuse _=>exact Le.refl _
 |rangeFunc g ps QE bd=>exact Ci h _ _ _ _ _ _
theorem Mx (n:Nat):ur (ev X own n) (ev X own (n+1)):=by
 induction n with
 |zero=>exact fun _ _ _=>Le.none
 |succ n ih=>exact Fe ih
theorem kj {n m:Nat}(h:n≤m):ur (ev X own n) (ev X own m):=by
 induction h with
 |refl=>exact fun _ _ _=>Le.refl _
 |step _ ih=>exact fun c fr s=>(ih c fr s).trans (Mx _ c fr s)
end
end Go.Am
end
