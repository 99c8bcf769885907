/-
  A part of the texts.
-/
import Derived.Scope
import Derived.ChangeSame
import Derived.OpenShut
import Derived.ProofKit
import Derived.WideKeyArgs
import Derived.Test.YtofohkdkpbigiaaRows
import Derived.Test.YtofohkdkpbigiaaQah
section
namespace Go.Am
section scopes
variable {F:Fence}{n:Nat}{P:Program}{b:Frame}{a:Act}{k:List Item}{cs:List Frame}{w:World}{Q:Exit→Act→World→Prop}
theorem iT {c:Code}:step P (lone (b.atR a (.code (.scope c)::k)) cs w)= .next (lone (b.atR a (.code c:: .inScope c::k)) cs w):=
 step_lone_go (by simp[stepG,stepG.exec,Frame.atR])
theorem xJ {c:Code}:step P (lone (b.atR a (.inScope c::k)) cs w)= .next (lone (b.atR a k) cs w):=
 step_lone_go (by simp[stepG,stepG.exec,Frame.atR])
theorem qh {c:Code}(h:c.wpIn F n P (Exit.noGoto Q) a w):(Code.scope c).wpIn F n P Q a w:=by
 intro b k cs hro hb hr
 have h0:(lone (b.atR a (.code (.scope c)::k)) cs w).fenced P F:=fenced_calm hb hr rfl
 obtain⟨e,a₁,w₁,hq,harr⟩:=h b (.inScope c::k) cs hro hb hr
 cases e with
 |normal=>exact⟨.normal,a₁,w₁,hq, .head h0 iT (StepsIn.trans harr (.one (fenced_calm hb hr rfl) xJ))⟩
 |exit id=>
  have hx:∀id,exitTo id (.inScope c::k)=exitTo id k:=fun id=>by simp[exitTo]
  exact⟨.exit id,a₁,w₁,hq,fun k' hk=> .head h0 iT (harr.1 k' (by rw[hx];exact hk)),
   fun hr' hk=>let⟨k₁,h1,h2⟩:=harr.2 hr' (by rw[hx];exact hk);⟨k₁,h1, .head h0 iT h2⟩⟩
 |goto l=>exact hq.elim
 |ret=>exact⟨.ret,a₁,w₁,hq, .of_steps (.one h0 iT) harr⟩
 |panic ch=>exact⟨.panic ch,a₁,w₁,hq, .of_steps (.one h0 iT) harr⟩
 |outgrown=>exact⟨.outgrown,a₁,w₁,hq, .of_steps (.one h0 iT) harr⟩
end scopes
section
variable {P:Program}{X:Ctx}(hX:dU P X)(hF:∀f fn,X.fns.get f=some fn→sU fn=true)
include hX hF in
theorem zS {own:bj}(ho:pc P own){ev:Ev}(hev:zV P ev){f:FuncId}{args:List AV}{s:St}{r:CR}(h:fN X own ev f args s=some r){ι:Inj}{w:World}{cargs:Array Value}(hv:VRs ι args cargs.toList)(hH:HR P ι s w):np P ι s w r f cargs:=by
 unfold fN at h
 split at h
 ·rename_i g hg;exact ho f g hg args s r h ι w cargs hv hH
 ·exact wS hX hF hev h hv hH
include hX hF in
theorem xL {own:bj}(ho:pc P own){ev:Ev}(hev:zV P ev):od P (cF X own ev):=by
 intro f args s r h ι w cargs hv hH
 unfold cF at h
 split at h
 ·exact zS hX hF ho hev h hv hH
 ·exact fun cb d hb=>EP hev h hv hH hb
theorem tX {ih:Ev}{b:Code}{r:EX×Fr×St}{o:Option (EX×Fr×St)}(h:mF ih b o=some r):(∃fr s,o=some (.norm,fr,s)∧ih b fr s=some r)∨(o=some r∧∀fr s,r≠(.norm,fr,s)):=by
 unfold mF at h
 split at h
 ·rename_i fr s;exact .inl ⟨fr,s,rfl,h⟩
 ·rename_i hne
  refine .inr ⟨h,fun fr s e=>?_⟩
  subst e
  exact hne _ _ h
theorem LR.LL {st:LSt}{r:Loop}(h:LR st r)(hs:st≠ .busy):r.state≠ .busy:=by
 cases st with
 |ready=>rw[h.1];simp
 |busy=>exact absurd rfl hs
 |done c=>rw[h.1];simp
include hX hF in
theorem Gf {ev:Ev}(hev:zV P ev){g:Operand}{ps:Array Nat}{QQ bd:Code}{fr:Fr}{s:St}{r:EX×Fr×St}(h:ov X ev ps.toList QQ bd fr s (fr.opd g)=some r)
  {N:Nat}(hN:N≤1000000000)(hca:dj N QQ=true)(hcb:dj N bd=true)(hqa:quiet QQ=true)(hqb:quiet bd=true)(hps:∀p∈ps.toList,p<N){ι:Inj}{a:Act}{w:World}(hf:FRN N mB ι fr a)(hH:HR P ι s w):
  (Code.rangeFunc g ps QQ bd).wpIn (FE P none) 0 P (lW P N ι s w r) a w:=by
 have hg:=hf.opd g (fun _ _ h=>h)
 unfold ov at h
 split at h
 ·rename_i f first cap hgv
  rw[hgv] at hg
  obtain⟨cx,cy,hgc,hv1,hv2⟩:∃x y,a.eval g= .func (.func f) x y∧VRs ι first x.toList∧VRs ι cap y.toList:=by simpa[VR] using hg
  unfold rq at h
  simp only[mG,oW] at h
  have n1:=hH.new (w':=w.alloc (.deferred (some []))) (ab:= .dfr) (o:= .deferred (some [])) 0 rfl ⟨rfl,rfl⟩ (fun κ _=>⟨rfl,World.alloc_heap_new _ _⟩)
  let ι1:=ι.at s.nx (w.heap.size,0,up 0)
  let w1:=w.alloc (.deferred (some []))
  let rec0:FuncId→Loop:=fun fn=>{state:= .ready,pending:=none,fn,tmps:=a.tmps,params:=ps,assign:=QQ,body:=bd,defers:=w.heap.size}
  have hsz1:w1.heap.size=w.heap.size+1:=by simp[w1]
  refine wpIn_rangeFunc fun fn hex=>?_
  have n2:=n1.1.new (w':=w1.alloc (.loop (rec0 fn))) (ab:= .loop fr.t ps.toList QQ bd .ready) (o:= .loop (rec0 fn)) 0 rfl ⟨rfl,rfl⟩ (fun κ hκ=>
   ⟨rfl,rec0 fn,N,World.alloc_heap_new _ _,hex,rfl,rfl,rfl,⟨rfl,rfl⟩,hf.n,hN,hca,hcb,hqa,hqb,hps,fun k v hk=>by
    obtain⟨cv,q1,q2⟩:=hf.t k v (fun h=>h) hk
    exact⟨cv,q1,q2.mono (Inj.le_trans n1.2.le hκ)⟩⟩)
  let ι2:=ι1.at (s.nx+1) (w1.heap.size,0,up 0)
  let w2:=w1.alloc (.loop (rec0 fn))
  have n2':HR P ι2 ((s.new .dfr).2.new (.loop fr.t ps.toList QQ bd .ready)).2 w2∧Ext ι1 (s.new .dfr).2 w1 ι2 ((s.new .dfr).2.new (.loop fr.t ps.toList QQ bd .ready)).2 w2:=n2
  have hE2:Ext ι s w ι2 ((s.new .dfr).2.new (.loop fr.t ps.toList QQ bd .ready)).2 w2:=n1.2.trans n2'.2
  have hb1:ι2 s.nx=some (w.heap.size,0,up 0):=by
   show(ι1.at (s.nx+1) _) s.nx=_
   unfold Inj.at
   rw[if_neg (by omega)]
   exact Inj.db _ _ _
  have hb2:ι2 (s.nx+1)=some (w.heap.size+1,0,up 0):=by
   rw[←hsz1];exact Inj.db _ _ _
  have hvy:VR ι2 (.yld (s.nx+1)) (.func (.yield (w.heap.size+1)) #[] #[]):=by
   simp only[VR]
   exact⟨_,_,hb2,rfl⟩
  have hargs:VRs ι2 (first++(.yld (s.nx+1)::cap)) (cx++ #[Value.func (.yield (w.heap.size+1)) #[] #[]]++cy).toList:=by
   have e:(cx++ #[Value.func (.yield (w.heap.size+1)) #[] #[]]++cy).toList=cx.toList++(Value.func (.yield (w.heap.size+1)) #[] #[]::cy.toList):=by simp
   rw[e]
   exact(hv1.mono hE2.le).append (by simp only[VRs];exact⟨hvy,hv2.mono hE2.le⟩)
  unfold ta at h
  split at h
  ·rename_i v s3 hcall
   obtain⟨g1,g2⟩:=ig hX hF hev hcall hargs n2'.1
   refine⟨w.heap.size+1,_,w2,{target:= .fn (.func f) cy,args:=cx++ #[Value.func (.yield (w.heap.size+1)) #[] #[]]},w2,f,cx++ #[Value.func (Fn.yield (w.heap.size+1)) #[] #[]]++cy,w2,run_enterLoop_outer fn a.tmps ps QQ bd,?_,fun f' hf'=>?_,?_,lP,?_⟩
   ·simp only[resolve]
    rw[hgc]
    simp[Deferred.ofValue,Act.eval]
   ·simp only[Target.leads,Option.some.injEq] at hf'
    subst hf'
    exact iL g1
   ·simp only[invoke];exact g1
   ·refine nP (CallsIn.mono g2 fun e w3 he=>?_)
    cases e with
    |panicked chain=>obtain⟨v',s'',e,_⟩:=he;cases e
    |outgrown=>exact he.elim
    |returned cv=>
     obtain⟨v',s'',e,κ,q1,q2,q3⟩:=he
     cases e
     have hk2:=q3.le _ _ hb2
     have hk1:=q3.le _ _ hb1
     have hEall:=hE2.trans q3
     unfold pZ at h
     have fin:∀ {t ps' QR bd' st},s3.h.get (s.nx+1)=some (.loop t ps' QR bd' st)→st≠ .busy→∃ (r3:Loop) (w4:World),LR st r3∧(Instr.endLoop (w.heap.size+1)).run P w3= .ok r3.pending w4∧
       HR P κ {s3 with h:=s3.h.del (s.nx+1)} w4∧Ext ι s w κ {s3 with h:=s3.h.del (s.nx+1)} w4∧
       FRN N mB κ ⟨fr.t, .mark s.nx::fr.d⟩ {a with defers:=[{target:= .collected w.heap.size,args:= #[]}]++a.defers}:=fun hg3 hnb=>by
      obtain⟨_,r3,N3,hw3,_,_,_,_,hl,_⟩:=q2.br _ _ _ _ hk2 hg3
      obtain⟨d1,d2⟩:=q2.dead (w':=w3.putObj (w.heap.size+1) (.loop {r3 with state:= .exhausted})) hk2 hg3 ⟨rfl,rfl⟩ World.putObj_size (fun c hc=>lr c hc) (.other hw3 fun _ _ _=>by simp)
      refine⟨r3,_,hl,run_endLoop hw3 (hl.LL hnb),d1,hEall.trans d2,fun k v hk hv=>?_,?_,hf.n⟩
      ·obtain⟨cv,p1,p2⟩:=hf.t k v hk hv
       exact⟨cv,p1,p2.mono hEall.le⟩
      ·exact .mark rfl hk1 (hf.d.mono hEall.le)
     split at h
     ·rename_i t ps' QR bd' hg3
      cases h
      obtain⟨r3,w4,hl,z1,z2,z3,z4⟩:=fin hg3 (by simp)
      rw[hl.2] at z1
      exact⟨_,_,z1,⟨κ,z4,z2,z3,trivial⟩⟩
     ·rename_i t ps' QR bd' c hg3
      split at h
      ·rename_i hj
       obtain⟨r3,w4,hl,z1,z2,z3,z4⟩:=fin hg3 (by simp)
       rw[hl.2] at z1
       refine⟨_,_,z1,?_⟩
       have hcc:dj N c=true:=by cases c<;>simp_all [wE,dj]
       exact wpIn_mono (hev c _ _ r h none N hN hcc (.inl rfl) κ _ _ z4 z2) fun e a' w' hp=>lW.of z3 hp
      ·cases h
     ·cases h
  ·rename_i v s3 hcall
   cases h
   obtain⟨g1,g2⟩:=ig hX hF hev hcall hargs n2'.1
   refine⟨w.heap.size+1,_,w2,{target:= .fn (.func f) cy,args:=cx++ #[Value.func (.yield (w.heap.size+1)) #[] #[]]},w2,f,cx++ #[Value.func (Fn.yield (w.heap.size+1)) #[] #[]]++cy,w2,run_enterLoop_outer fn a.tmps ps QQ bd,?_,fun f' hf'=>?_,?_,lP,?_⟩
   ·simp only[resolve]
    rw[hgc]
    simp[Deferred.ofValue,Act.eval]
   ·simp only[Target.leads,Option.some.injEq] at hf'
    subst hf'
    exact iL g1
   ·simp only[invoke];exact g1
   ·refine nP (CallsIn.mono g2 fun e w3 he=>?_)
    cases e with
    |returned cv=>obtain⟨v',s'',e,_⟩:=he;cases e
    |outgrown=>exact he.elim
    |panicked chain=>
     obtain⟨v',s'',e,κ,cv,rfl,q1,q2,q3⟩:=he
     cases e
     refine⟨κ,⟨fun k v hk hv=>?_, .mark rfl (q3.le _ _ hb1) (hf.d.mono (hE2.trans q3).le),hf.n⟩,q2,hE2.trans q3,cv,rfl,q1⟩
     obtain⟨cv,p1,p2⟩:=hf.t k v hk hv
     exact⟨cv,p1,p2.mono (hE2.trans q3).le⟩
  ·cases h
 ·cases h
include hX hF in
theorem Hn {own:bj}(ho:pc P own):∀n,zV P (ev X own n)∧
  ∀b fr s r,ev X own n (.loop b) fr s=some r→∀ro N,N≤1000000000→dj N b=true→(ro=none∨quiet b=true)→∀ι₀ s₀ w₀ ι a w,FRN N mB ι fr a→HR P ι s w→Ext ι₀ s₀ w₀ ι s w→Code.roundsIn (FE P ro) 0 P b (lW P N ι₀ s₀ w₀ r) n a w:=by
 intro n
 induction n with
 |zero=>exact⟨fun c fr s r h=>(by cases h),fun b fr s r h=>(by cases h)⟩
 |succ n ih=>
  obtain⟨ih,ihl⟩:=ih
  have hcall:=xL hX hF ho ih
  have loops:∀b fr s r,ev X own (n+1) (.loop b) fr s=some r→∀ro N,N≤1000000000→dj N b=true→(ro=none∨quiet b=true)→∀ι₀ s₀ w₀ ι a w,FRN N mB ι fr a→HR P ι s w→Ext ι₀ s₀ w₀ ι s w→Code.roundsIn (FE P ro) 0 P b (lW P N ι₀ s₀ w₀ r) (n+1) a w:=by
   intro b fr s r h ro N hN hc hq ι₀ s₀ w₀ ι a w hf hH hE
   have h:mF (ev X own n) (.loop b) (ev X own n b fr s)=some r:=h
   rw[roundsIn_succ]
   rcases tX h with⟨fr',s',h1,h2⟩|⟨h1,h2⟩
   ·refine wpIn_mono (ih b fr s _ h1 ro N hN hc hq ι a w hf hH) fun e a' w' ⟨κ,g1,g2,g3,g4⟩=>?_
    cases e<;>simp only at g4
    exact ihl b fr' s' r h2 ro N hN hc hq ι₀ s₀ w₀ κ a' w' g1 g2 (hE.trans g3)
   ·refine wpIn_mono (ih b fr s _ h1 ro N hN hc hq ι a w hf hH) fun e a' w' hp=>?_
    obtain⟨x,fr',s'⟩:=r
    have hp':=lW.of hE hp
    cases e
    case normal=>
     obtain⟨κ,g1,g2,g3,g4⟩:=hp
     cases x<;>simp only at g4
     exact absurd rfl (h2 fr' s')
    all_goals exact hp'
  refine⟨fun c fr s r h ro N hN hc hq ι a w hf hH=>?_,loops⟩
  replace h:px X own (ev X own n) c fr s=some r:=h
  unfold px at h
  split at h
  ·cases h;exact wpIn_skip ⟨ι,hf,hH,Ext.refl _ _ _,trivial⟩
  ·cases h;exact wpIn_label ⟨ι,hf,hH,Ext.refl _ _ _,trivial⟩
  ·rename_i id ops draw
   simp only[dj,Bool.and_eq_true] at hc
   have hq':ro=none∨ops.toList.all gz=true:=hq.imp (fun h=>h) (fun h=>by simpa[quiet] using h)
   unfold wQ at h
   split at h
   ·refine wpIn_region ?_
    have:=qy hX hcall ops.toList 0 (by simp) hc.1 hq' h hf hH (Ext.refl _ _ _)
    simpa[List.range_eq_range'] using this
   ·have hdr:qF ops=true:=by simpa using hc.2
    refine wpIn_region_any hX.mixed ?_
    exact Cg hX hcall ro N ops fr s r hN hc.1 hq' hdr h ι s w ι a _ hf (hH.heap rfl) (Ext.heap rfl ⟨rfl,rfl⟩)
  ·rename_i x y
   simp only[dj,Bool.and_eq_true] at hc
   have hq1:ro=none∨quiet x=true:=hq.imp (fun h=>h) (fun h=>by simp only[quiet,Bool.and_eq_true] at h;exact h.1)
   have hq2:ro=none∨quiet y=true:=hq.imp (fun h=>h) (fun h=>by simp only[quiet,Bool.and_eq_true] at h;exact h.2)
   refine wpIn_seq ?_
   rcases tX h with⟨fr',s',h1,h2⟩|⟨h1,h2⟩
   ·refine wpIn_mono (ih x fr s _ h1 ro N hN hc.1 hq1 ι a w hf hH) fun e a' w' ⟨κ,g1,g2,g3,g4⟩=>?_
    cases e<;>simp only at g4
    exact wpIn_mono (ih y fr' s' r h2 ro N hN hc.2 hq2 κ a' w' g1 g2) fun e a w=>lW.of g3
   ·refine wpIn_mono (ih x fr s _ h1 ro N hN hc.1 hq1 ι a w hf hH) fun e a' w' hp=>?_
    obtain⟨x,fr',s'⟩:=r
    cases e
    case normal=>
     obtain⟨κ,g1,g2,g3,g4⟩:=hp
     cases x<;>simp only at g4
     exact absurd rfl (h2 fr' s')
    all_goals exact hp
  ·rename_i x b c
   simp only[dj,Bool.and_eq_true] at hc
   have hq1:ro=none∨quiet b=true:=hq.imp (fun h=>h) (fun h=>by simp only[quiet,Bool.and_eq_true] at h;exact h.1)
   have hq2:ro=none∨quiet c=true:=hq.imp (fun h=>h) (fun h=>by simp only[quiet,Bool.and_eq_true] at h;exact h.2)
   have hv:=hf.opd x (fun _ _ h=>h)
   unfold qM at h
   split at h
   ·rename_i e;rw[e] at hv;exact wpIn_cond_true hv.bool (ih b fr s r h ro N hN hc.1 hq1 ι a w hf hH)
   ·rename_i e;rw[e] at hv;exact wpIn_cond_false hv.bool (ih c fr s r h ro N hN hc.2 hq2 ι a w hf hH)
   ·cases h
  ·rename_i id b
   have hq1:ro=none∨quiet b=true:=hq.imp (fun h=>h) (fun h=>by simpa[quiet] using h)
   refine wpIn_block ?_
   unfold mJ at h
   split at h
   ·rename_i j fr' s' he
    split at h
    ·rename_i hj
     cases h
     have hj:=Nat.beq_eq.mp hj
     subst hj
     refine wpIn_mono (ih b fr s _ he ro N hN hc hq1 ι a w hf hH) fun e a' w' ⟨κ,g1,g2,g3,g4⟩=>?_
     cases e<;>simp only at g4
     subst g4
     simp only[Exit.inBlock,if_true]
     exact⟨κ,g1,g2,g3,trivial⟩
    ·rename_i hj
     cases h
     refine wpIn_mono (ih b fr s _ he ro N hN hc hq1 ι a w hf hH) fun e a' w' ⟨κ,g1,g2,g3,g4⟩=>?_
     cases e<;>simp only at g4
     subst g4
     have:j≠id:=fun e=>by rw[e] at hj;simp at hj
     simp only[Exit.inBlock,this,if_false]
     exact⟨κ,g1,g2,g3,rfl⟩
   ·rename_i hne
    obtain⟨x,fr',s'⟩:=r
    refine wpIn_mono (ih b fr s _ h ro N hN hc hq1 ι a w hf hH) fun e a' w' hp=>?_
    cases e
    case exit j=>
     obtain⟨κ,g1,g2,g3,g4⟩:=hp
     cases x<;>simp only at g4
     exact absurd h (hne _ _ _)
    all_goals exact hp
  ·rename_i b
   have hq1:ro=none∨quiet b=true:=hq.imp (fun h=>h) (fun h=>by simpa[quiet] using h)
   exact wpIn_loop_rounds (n+1) (loops b fr s r h ro N hN hc hq1 ι s w ι a w hf hH (Ext.refl _ _ _))
  ·cases h;exact wpIn_exit ⟨ι,hf,hH,Ext.refl _ _ _,rfl⟩
  ·rename_i b
   have hq1:ro=none∨quiet b=true:=hq.imp (fun h=>h) (fun h=>by simpa[quiet] using h)
   refine qh (wpIn_mono (ih b fr s r h ro N hN hc hq1 ι a w hf hH) fun e a' w' hp=>?_)
   cases e
   case goto l=>
    obtain⟨κ,g1,g2,g3,g4⟩:=hp
    obtain⟨x,fr',s'⟩:=r
    cases x<;>simp only at g4
   all_goals exact hp
  ·cases h;exact wpIn_ret ⟨ι,hf,hH,Ext.refl _ _ _,trivial⟩
  ·cases h
  ·cases h
  ·rename_i g ps QQ bd
   rcases hq with rfl|hq
   ·simp only[dj,Bool.and_eq_true] at hc
    obtain⟨⟨hca,hcb⟩,⟨hqa,hqb⟩,hps⟩:=hc
    exact Gf hX hF ih h hN hca hcb hqa hqb (fun p hp=>by simpa[Nat.blt_eq] using List.all_eq_true.mp hps p hp) hf hH
   ·simp[quiet] at hq
end
end Go.Am
end
section
namespace Go.Am
theorem lj {P:Program}{X:Ctx}(hX:dU P X)(hF:∀f fn,X.fns.get f=some fn→sU fn=true){own:bj}(ho:pc P own)(n:Nat){f:FuncId}{args:List AV}{s:St}{r:CR}(h:mw X own n f args s=some r){ι:Inj}{w:World}{cargs:Array Value}(hv:VRs ι args cargs.toList)(hH:HR P ι s w):(callFunc f cargs).run P w= .ok (.enter f cargs) w∧CallsIn (FE P none) 0 P f cargs w (tY P ι s w r):=
 ig hX hF (Hn hX hF ho n).1 h hv hH
def Pa:bj:=fun _=>none
theorem HN (P:Program):pc P Pa:=fun _ _ h=>by cases h
theorem GU {P:Program}{eqs:List TypeId}(h:P.funcs.toList.all sU=true):∀f fn,(Ctx.of P eqs).fns.get f=some fn→sU fn=true:=fun f fn hf=>
 List.all_eq_true.mp h fn (by rw[Array.mem_toList_iff];exact Array.mem_of_getElem? (Gk hf))
def St.nil:St:={h:= .e,nx:=0,gl:= .e,sh:=[]}
theorem HR.nil {P:Program}(w:World):HR P Inj.nil St.nil w:=⟨fun _ _ h=>(Tr.Pf h).elim,fun _ _ _ h=>(by cases h),fun _ _ h=>(by cases h),fun _ _ _ _ h=>(by cases h),fun _ _ _ _ _ _ _ h=>(by cases h)⟩
def oX (w w':World):Prop:=Kin w w'∧w.heap.size≤w'.heap.size∧∀cb,cb<w.heap.size→w'.heap[cb]? =w.heap[cb]?
end Go.Am
end
section
namespace Go.Am
open Go.WideShapes Go.ChangeShapes
theorem oX.refl (w:World):oX w w:=⟨Kin.refl w,Nat.le_refl _,fun _ _=>rfl⟩
theorem oX.trans {w v u:World}(h:oX w v)(h':oX v u):oX w u:=
 ⟨h.1.trans h'.1,Nat.le_trans h.2.1 h'.2.1,fun cb hcb=>(h'.2.2 cb (Nat.lt_of_lt_of_le hcb h.2.1)).trans (h.2.2 cb hcb)⟩
theorem oX.frozen {w v:World}(h:oX w v){a:Addr}(ha:a.block<w.heap.size):v.frozen? a=w.frozen? a:=by
 unfold World.frozen?
 rw[h.2.2 _ ha]
theorem oX.cell {w v:World}(h:oX w v){a:Addr}(ha:a.block<w.heap.size):v.cell? a=w.cell? a:=by
 unfold World.cell?
 rw[h.2.2 _ ha]
theorem oX.kept {w v:World}(h:oX w v)(may:MemPlace→Prop):w.keptBut v may:=by
 refine⟨h.1.1,h.1.2,fun i hi=>?_⟩
 rw[h.2.2 i hi]
 cases ho:w.heap[i]? with
 |none=>trivial
 |some o=>
  cases o with
  |cells c t fr=>exact⟨rfl,rfl,rfl,fun _ _=>rfl⟩
  |map es clock=>exact .inr ⟨rfl,rfl⟩
  | _=>rfl
section
variable {H:Type}{enc:TypeId×Value→H}{P:Program}
theorem sI {f:Func}{s:ChangeSpec}{apart fresh handsOn again:Bool}{W W':World}{args:Array Value}{v:Value}{ds gs:List (DataW H)}{before pa pv:List MemPlace}
  (hW:DataW.Whole enc P f.params.toList s.vars apart W args.toList ds gs before)
  (hres:∀ (b:Nat) (sp:Nat→Bool) (hd:Bool),DataW.TrodAll enc P W' b sp hd f.resultTypes.toList (v.resultList f.resultTypes.size) (s.fn H (ds++gs)).results [])
  (hargs:∀sp:Nat→Bool,(∀p∈before,sp p.block=true)→DataW.TrodAll enc P W' 0 sp true f.params.toList args.toList (s.fn H (ds++gs)).args pa)
  (hvars:∀sp:Nat→Bool,(∀p∈before,sp p.block=true)→DataW.TrodVars enc P W' sp s.vars (s.fn H (ds++gs)).vars pv)
  (hps:before=pa++pv)(hg:oX W W')
  (hok:∀ (j:Nat) (t:TypeId) (r:Value),f.resultTypes[j]? =some t→(v.resultList f.resultTypes.size)[j]? =some r→Value.okWide P W' .any 0 t r):
  s.post enc P f apart fresh handsOn again W args v W':=by
 have hlt:∀p∈before,p.block<W.heap.size:=fun p hp=>by simpa using hW.lt p hp
 have hold:∀p∈before,(fun b=>decide (b<W.heap.size)) p.block=true:=fun p hp=>by simpa using hW.lt p hp
 refine⟨ds,gs,before,[],pa,pv,hW,hres _ _ _,hargs _ hold,hvars _ hold,World.keptBut_mono (fun p hp=>⟨hp,?_⟩) (hg.kept (· ∈before)),fun _=>?_⟩
 ·rw[hps,List.mem_append] at hp
  exact Or.inr hp
 ·obtain⟨_,_,_,_,_,hz,hn⟩:=hW
  refine⟨hok,_,_,([]++pa)++pv,⟨[]++pa,pv,trodAll_append (hargs _ (fun _ _=>rfl)) (hres _ _ _),hvars _ (fun _ _=>rfl),rfl,?_,?_⟩,?_⟩
  ·intro b off hp
   have hp':MemPlace.cell b off∈before:=by rw[hps];simpa using hp
   rw[hg.frozen (hlt _ hp')]
   exact hz b off hp'
  ·intro ha
   have:=hn ha
   rw[hps] at this
   simpa using this
  ·intro p hp _
   rw[hps]
   simpa using hp
end
end Go.Am
end
section
namespace Go.Am
open Go.WideShapes Go.ChangeShapes
section
variable {H:Type}{enc:TypeId×Value→H}{P:Program}
theorem md {w:World}{base:Nat}{spare:Nat→Bool}{held:Bool}:∀ {ts:List TypeId} {vs:List Value} {ds:List (DataW H)} {ps:List MemPlace},DataW.TrodAll enc P w base spare held ts vs ds ps→ts.length=vs.length
 |[],[],[],_,_=>rfl
 |[],[],_::_,_,h=>by simp[DataW.TrodAll] at h
 |[],_::_,_,_,h=>by simp[DataW.TrodAll] at h
 | _::_,[],_,_,h=>by simp[DataW.TrodAll] at h
 | _::_,_::_,[],_,h=>by simp[DataW.TrodAll] at h
 |t::ts,v::vs,d::ds,ps,h=>by
  obtain⟨p,q,_,h2,_⟩:=h
  simp[md h2]
theorem kE {w:World}{base:Nat}{spare:Nat→Bool}{held:Bool}:∀ {ts:List TypeId} {vs:List Value} {ds:List (DataW H)} {ps:List MemPlace},DataW.TrodAll enc P w base spare held ts vs ds ps→ts.length=ds.length
 |[],[],[],_,_=>rfl
 |[],[],_::_,_,h=>by simp[DataW.TrodAll] at h
 |[],_::_,_,_,h=>by simp[DataW.TrodAll] at h
 | _::_,[],_,_,h=>by simp[DataW.TrodAll] at h
 | _::_,_::_,[],_,h=>by simp[DataW.TrodAll] at h
 |t::ts,v::vs,d::ds,ps,h=>by
  obtain⟨p,q,_,h2,_⟩:=h
  simp[kE h2]
theorem oX.same {W W':World}(hg:oX W W'){p:MemPlace}(hp:p.block<W.heap.size):W.sameAt W' p:=by
 cases p<;>simp only[World.sameAt,MemPlace.block] at hp ⊢ <;>first
  |(rw[hg.cell hp];done)
  |(unfold World.cell?;rw[hg.2.2 _ hp];done)
  |(rw[hg.2.2 _ hp];done)
theorem oG (hl:laidOutB P=true){W W':World}(hg:oX W W'){sp:Nat→Bool}:∀ {ts:List TypeId} {vs:List Value} {ds:List (DataW H)} {ps:List MemPlace},(ts.all fun t=>P.readableRec t&&decide (t<P.types.size))=true→
  DataW.TrodAll enc P W 0 (fun _=>true) true ts vs ds ps→(∀p∈ps,p.block<W.heap.size)→(∀p∈ps,sp p.block=true)→DataW.TrodAll enc P W' 0 sp true ts vs ds ps
 |[],[],[],ps,_,h,_,_=>h
 |[],[],_::_,_,_,h,_,_=>by simp[DataW.TrodAll] at h
 |[],_::_,_,_,_,h,_,_=>by simp[DataW.TrodAll] at h
 | _::_,[],_,_,_,h,_,_=>by simp[DataW.TrodAll] at h
 | _::_,_::_,[],_,_,h,_,_=>by simp[DataW.TrodAll] at h
 |t::ts,v::vs,d::ds,ps,ht,h,hlt,hsp=>by
  obtain⟨p,q,h1,h2,rfl⟩:=h
  simp only[List.all_cons,Bool.and_eq_true,decide_eq_true_eq] at ht
  refine⟨p,q,WideElems.Trod_stays hl ht.1.1 ht.1.2 h1 (fun x hx=>hg.same (hlt x (by simp[hx]))) (fun x hx=>hsp x (by simp[hx])),oG hl hg (by simpa using ht.2) h2 (fun x hx=>hlt x (by simp[hx])) (fun x hx=>hsp x (by simp[hx])),rfl⟩
end
end Go.Am
end
section
namespace Go.Proofs.Ytofohkdkpbigiaa
open Go.Am
set_option maxRecDepth 100000
def eqT:List Nat:=[28,77,93]
theorem JG:eqT.all (fun t=> !Try.prog.stoodInHeld t&& !Try.prog.eqGuardType Try.prog.depth t)=true:=by kernel_rfl
theorem DO {a:Nat}:∀ {l:List Nat},dx a l=true→a∈l
 |[],h=>by simp[dx] at h
 |b::l,h=>by
  simp only[dx] at h
  split at h
  ·rename_i e;rw[Nat.eq_of_beq_eq_true e];simp
  ·exact List.mem_cons_of_mem _ (DO h)
theorem eqs:∀t,dx t eqT=true→Try.prog.stoodInHeld t=false∧Try.prog.eqGuardType Try.prog.depth t=false:=by
 intro t h
 have:=List.all_eq_true.mp JG t (DO h)
 simpa using this
theorem ctx:dU Try.prog (Ctx.of Try.prog eqT):=dU.of eqs (by kernel_rfl)
theorem fns:Try.prog.funcs.toList.all sU=true:=by decide+kernel
noncomputable def X:Ctx:=Ctx.of Try.prog eqT
theorem lS:X.und 2=some (.int .i64):=by kernel_rfl
theorem jH:X.size 2=some 1:=by kernel_rfl
theorem MX:X.zero 2=some (.int .i64 (0)):=by kernel_rfl
theorem Ng:X.elem 2=some 1:=by kernel_rfl
theorem aN:X.und 3=some (.int .i64):=by kernel_rfl
theorem ay:X.size 3=some 1:=by kernel_rfl
theorem Ak:X.zero 3=some (.int .i64 (0)):=by kernel_rfl
theorem M8:X.elem 3=some 1:=by kernel_rfl
theorem mg:X.und 4=some .bool:=by kernel_rfl
theorem eC:X.size 4=some 1:=by kernel_rfl
theorem HM:X.zero 4=some (.bool false):=by kernel_rfl
theorem MN:X.elem 4=some 1:=by kernel_rfl
theorem jB:X.und 5=some (.int .u8):=by kernel_rfl
theorem qN:X.size 5=some 1:=by kernel_rfl
theorem yP:X.zero 5=some (.int .u8 (0)):=by kernel_rfl
theorem tH:X.elem 5=some 1:=by kernel_rfl
theorem aE:X.und 9=some .string:=by kernel_rfl
theorem aF:X.size 9=some 1:=by kernel_rfl
theorem z6:X.zero 9=some (.str ⟨0,0⟩):=by kernel_rfl
theorem HQ:X.elem 9=some 1:=by kernel_rfl
theorem CA:X.und 20=some (.interface #[]):=by kernel_rfl
theorem Lf:X.size 20=some 1:=by kernel_rfl
theorem K7:X.zero 20=some (.nilIface):=by kernel_rfl
theorem Lb:X.elem 20=some 1:=by kernel_rfl
theorem mc:X.und 22=some (.pointer 60):=by kernel_rfl
theorem lu:X.size 22=some 1:=by kernel_rfl
theorem Lj:X.zero 22=some (.ptr none):=by kernel_rfl
theorem JN:X.elem 22=some 1:=by kernel_rfl
theorem oh:X.und 23=some (.int .i64):=by kernel_rfl
theorem eM:X.size 23=some 1:=by kernel_rfl
theorem DU:X.zero 23=some (.int .i64 (0)):=by kernel_rfl
theorem Lo:X.elem 23=some 1:=by kernel_rfl
theorem oB:X.und 28=some (.struct #[⟨"Client",3,0,false,"","",0⟩,⟨"Seq",3,1,false,"","",8⟩,⟨"Time",3,2,false,"","",16⟩,⟨"Code",3,3,false,"","",24⟩]):=by kernel_rfl
theorem jc:X.size 28=some 4:=by kernel_rfl
theorem qe:X.zero 28=some (.agg [.int .i64 (0), .int .i64 (0), .int .i64 (0), .int .i64 (0)]):=by kernel_rfl
theorem DP:X.elem 28=some 4:=by kernel_rfl
theorem vH:X.und 31=some (.struct #[⟨"Time",3,0,false,"","",0⟩,⟨"Data",9,1,false,"","",8⟩]):=by kernel_rfl
theorem zD:X.size 31=some 2:=by kernel_rfl
theorem Aj:X.zero 31=some (.agg [.int .i64 (0), .str ⟨0,0⟩]):=by kernel_rfl
theorem Kv:X.elem 31=some 2:=by kernel_rfl
theorem m4:X.und 34=some (.struct #[⟨"Key",9,0,false,"","",0⟩,⟨"Val",9,1,false,"","",16⟩,⟨"Del",4,2,false,"","",32⟩]):=by kernel_rfl
theorem bT:X.size 34=some 3:=by kernel_rfl
theorem mK:X.zero 34=some (.agg [.str ⟨0,0⟩, .str ⟨0,0⟩, .bool false]):=by kernel_rfl
theorem D9:X.elem 34=some 3:=by kernel_rfl
theorem ct:X.und 35=some (.slice 34):=by kernel_rfl
theorem fW:X.size 35=some 1:=by kernel_rfl
theorem JQ:X.zero 35=some (.slc none 0 0 true):=by kernel_rfl
theorem K6:X.elem 35=some 1:=by kernel_rfl
theorem dS:X.und 36=some (.slice 9):=by kernel_rfl
theorem fV:X.size 36=some 1:=by kernel_rfl
theorem KA:X.zero 36=some (.slc none 0 0 true):=by kernel_rfl
theorem JH:X.elem 36=some 1:=by kernel_rfl
theorem eP:X.und 37=some (.slice 42):=by kernel_rfl
theorem fY:X.size 37=some 1:=by kernel_rfl
theorem KT:X.zero 37=some (.slc none 0 0 true):=by kernel_rfl
theorem LA:X.elem 37=some 1:=by kernel_rfl
theorem eO:X.und 38=some (.slice 74):=by kernel_rfl
theorem jt:X.size 38=some 1:=by kernel_rfl
theorem KF:X.zero 38=some (.slc none 0 0 true):=by kernel_rfl
theorem JF:X.elem 38=some 1:=by kernel_rfl
theorem bZ:X.und 40=some (.struct #[⟨"Kind",3,0,false,"","",0⟩,⟨"Client",3,1,false,"","",8⟩,⟨"Seq",3,2,false,"","",16⟩,⟨"Snap",3,3,false,"","",24⟩,⟨"Keys",36,4,false,"","",32⟩,⟨"Ranges",37,5,false,"","",56⟩,⟨"Writes",35,6,false,"","",80⟩,⟨"Deadline",3,7,false,"","",104⟩,⟨"After",3,8,false,"","",112⟩,⟨"Held",3,9,false,"","",120⟩,⟨"Text",9,10,false,"","",128⟩,⟨"Code",3,11,false,"","",144⟩,⟨"Rows",38,12,false,"","",152⟩]):=by kernel_rfl
theorem cn:X.size 40=some 13:=by kernel_rfl
theorem ly:X.zero 40=some (.agg [.int .i64 (0), .int .i64 (0), .int .i64 (0), .int .i64 (0), .slc none 0 0 true, .slc none 0 0 true, .slc none 0 0 true, .int .i64 (0), .int .i64 (0), .int .i64 (0), .str ⟨0,0⟩, .int .i64 (0), .slc none 0 0 true]):=by kernel_rfl
theorem JV:X.elem 40=some 13:=by kernel_rfl
theorem qV:X.und 42=some (.struct #[⟨"Lo",9,0,false,"","",0⟩,⟨"Hi",9,1,false,"","",16⟩]):=by kernel_rfl
theorem fQ:X.size 42=some 2:=by kernel_rfl
theorem sD:X.zero 42=some (.agg [.str ⟨0,0⟩, .str ⟨0,0⟩]):=by kernel_rfl
theorem DD:X.elem 42=some 2:=by kernel_rfl
theorem du:X.und 44=some (.pointer 73):=by kernel_rfl
theorem dw:X.size 44=some 1:=by kernel_rfl
theorem L5:X.zero 44=some (.ptr none):=by kernel_rfl
theorem Mb:X.elem 44=some 1:=by kernel_rfl
theorem vb:X.size 47=some 1:=by kernel_rfl
theorem Ly:X.zero 47=some (.nilFunc):=by kernel_rfl
theorem LK:X.elem 47=some 1:=by kernel_rfl
theorem bE:X.und 52=some (.slice 93):=by kernel_rfl
theorem bM:X.size 52=some 1:=by kernel_rfl
theorem sT:X.zero 52=some (.slc none 0 0 true):=by kernel_rfl
theorem rO:X.elem 52=some 1:=by kernel_rfl
theorem tu:X.und 57=some (.map 3 104):=by kernel_rfl
theorem qa:X.size 57=some 1:=by kernel_rfl
theorem L6:X.zero 57=some (.map none):=by kernel_rfl
theorem JB:X.elem 57=some 1:=by kernel_rfl
theorem tF:X.und 58=some (.slice 28):=by kernel_rfl
theorem sx:X.size 58=some 1:=by kernel_rfl
theorem J7:X.zero 58=some (.slc none 0 0 true):=by kernel_rfl
theorem J0:X.elem 58=some 1:=by kernel_rfl
theorem qD:X.und 60=some (.struct #[⟨"room",3,0,false,"","falsework/apply",0⟩,⟨"time",3,1,false,"","falsework/apply",8⟩,⟨"store",44,2,false,"","falsework/apply",16⟩,⟨"dones",58,3,false,"","falsework/apply",24⟩,⟨"last",57,4,false,"","falsework/apply",48⟩]):=by kernel_rfl
theorem Ll:X.size 60=some 5:=by kernel_rfl
theorem Ej:X.zero 60=some (.agg [.int .i64 (0), .int .i64 (0), .ptr none, .slc none 0 0 true, .map none]):=by kernel_rfl
theorem KH:X.elem 60=some 5:=by kernel_rfl
theorem iC:X.und 67=some (.slice 69):=by kernel_rfl
theorem yY:X.size 67=some 1:=by kernel_rfl
theorem EH:X.zero 67=some (.slc none 0 0 true):=by kernel_rfl
theorem LW:X.elem 67=some 1:=by kernel_rfl
theorem ki:X.und 69=some (.struct #[⟨"time",3,0,false,"","falsework/store",0⟩,⟨"val",9,1,false,"","falsework/store",8⟩,⟨"gone",4,2,false,"","falsework/store",24⟩]):=by kernel_rfl
theorem eR:X.size 69=some 3:=by kernel_rfl
theorem sJ:X.zero 69=some (.agg [.int .i64 (0), .str ⟨0,0⟩, .bool false]):=by kernel_rfl
theorem yQ:X.elem 69=some 3:=by kernel_rfl
theorem bV:X.und 70=some (.slice 52):=by kernel_rfl
theorem iq:X.size 70=some 1:=by kernel_rfl
theorem Ma:X.zero 70=some (.slc none 0 0 true):=by kernel_rfl
theorem KZ:X.elem 70=some 1:=by kernel_rfl
theorem dz:X.und 71=some (.map 9 67):=by kernel_rfl
theorem dJ:X.size 71=some 1:=by kernel_rfl
theorem LS:X.zero 71=some (.map none):=by kernel_rfl
theorem J4:X.elem 71=some 1:=by kernel_rfl
theorem qY:X.und 73=some (.struct #[⟨"room",3,0,false,"","falsework/store",0⟩,⟨"size",3,1,false,"","falsework/store",8⟩,⟨"last",3,2,false,"","falsework/store",16⟩,⟨"keys",70,3,false,"","falsework/store",24⟩,⟨"all",71,4,false,"","falsework/store",48⟩]):=by kernel_rfl
theorem L9:X.size 73=some 5:=by kernel_rfl
theorem Eh:X.zero 73=some (.agg [.int .i64 (0), .int .i64 (0), .int .i64 (0), .slc none 0 0 true, .map none]):=by kernel_rfl
theorem LO:X.elem 73=some 5:=by kernel_rfl
theorem iA:X.und 74=some (.slice 77):=by kernel_rfl
theorem ey:X.size 74=some 1:=by kernel_rfl
theorem Ew:X.zero 74=some (.slc none 0 0 true):=by kernel_rfl
theorem Ec:X.elem 74=some 1:=by kernel_rfl
theorem fa:X.und 75=some (.int .u64):=by kernel_rfl
theorem gF:X.size 75=some 1:=by kernel_rfl
theorem Kb:X.zero 75=some (.int .u64 (0)):=by kernel_rfl
theorem JA:X.elem 75=some 1:=by kernel_rfl
theorem fL:X.und 77=some (.struct #[⟨"Kind",3,0,false,"","",0⟩,⟨"N",2,1,false,"","",8⟩,⟨"F",75,2,false,"","",16⟩,⟨"S",9,3,false,"","",24⟩]):=by kernel_rfl
theorem dH:X.size 77=some 4:=by kernel_rfl
theorem nN:X.zero 77=some (.agg [.int .i64 (0), .int .i64 (0), .int .u64 (0), .str ⟨0,0⟩]):=by kernel_rfl
theorem EI:X.elem 77=some 4:=by kernel_rfl
theorem NL:X.und 82=some (.pointer 85):=by kernel_rfl
theorem KK:X.size 82=some 1:=by kernel_rfl
theorem Ld:X.zero 82=some (.ptr none):=by kernel_rfl
theorem J8:X.elem 82=some 1:=by kernel_rfl
theorem cM:X.und 83=some (.slice 5):=by kernel_rfl
theorem cQ:X.size 83=some 1:=by kernel_rfl
theorem Kf:X.zero 83=some (.slc none 0 0 true):=by kernel_rfl
theorem Kh:X.elem 83=some 1:=by kernel_rfl
theorem Ds:X.und 85=some (.struct #[⟨"B",83,0,false,"","",0⟩]):=by kernel_rfl
theorem Kq:X.size 85=some 1:=by kernel_rfl
theorem Ed:X.zero 85=some (.agg [.slc none 0 0 true]):=by kernel_rfl
theorem LU:X.elem 85=some 1:=by kernel_rfl
theorem nS:X.und 93=some (.struct #[⟨"Key",9,0,false,"","",0⟩,⟨"Val",9,1,false,"","",16⟩]):=by kernel_rfl
theorem bW:X.size 93=some 2:=by kernel_rfl
theorem lC:X.zero 93=some (.agg [.str ⟨0,0⟩, .str ⟨0,0⟩]):=by kernel_rfl
theorem mO:X.elem 93=some 2:=by kernel_rfl
theorem NU:X.und 96=some (.pointer 100):=by kernel_rfl
theorem L4:X.size 96=some 1:=by kernel_rfl
theorem Kc:X.zero 96=some (.ptr none):=by kernel_rfl
theorem KM:X.elem 96=some 1:=by kernel_rfl
theorem Cf:X.und 98=some (.struct #[⟨"s",9,0,false,"","falsework/cmd",0⟩]):=by kernel_rfl
theorem zF:X.size 98=some 1:=by kernel_rfl
theorem Et:X.zero 98=some (.agg [.str ⟨0,0⟩]):=by kernel_rfl
theorem Lu:X.elem 98=some 1:=by kernel_rfl
theorem zx:X.und 100=some (.struct #[⟨"cursor",98,0,true,"","falsework/cmd",0⟩]):=by kernel_rfl
theorem IW:X.size 100=some 1:=by kernel_rfl
theorem AQ:X.zero 100=some (.agg [.str ⟨0,0⟩]):=by kernel_rfl
theorem I7:X.elem 100=some 1:=by kernel_rfl
theorem uX:X.und 104=some (.struct #[⟨"seq",3,0,false,"","falsework/apply",0⟩,⟨"code",3,1,false,"","falsework/apply",8⟩]):=by kernel_rfl
theorem By:X.size 104=some 2:=by kernel_rfl
theorem pn:X.zero 104=some (.agg [.int .i64 (0), .int .i64 (0)]):=by kernel_rfl
theorem HF:X.elem 104=some 2:=by kernel_rfl
theorem rn:X.und 110=some (.int .u32):=by kernel_rfl
theorem Hh:X.size 110=some 1:=by kernel_rfl
theorem Hu:X.zero 110=some (.int .u32 (0)):=by kernel_rfl
theorem Hk:X.elem 110=some 1:=by kernel_rfl
theorem zH:X.und 112=some (.int .u64):=by kernel_rfl
theorem Jv:X.size 112=some 1:=by kernel_rfl
theorem Jj:X.zero 112=some (.int .u64 (0)):=by kernel_rfl
theorem Hz:X.elem 112=some 1:=by kernel_rfl
theorem LG:X.und 118=some (.pointer 120):=by kernel_rfl
theorem Jn:X.size 118=some 1:=by kernel_rfl
theorem I4:X.zero 118=some (.ptr none):=by kernel_rfl
theorem GH:X.elem 118=some 1:=by kernel_rfl
theorem zC:X.und 120=some (.struct #[⟨"b",83,0,false,"","falsework/cmd",0⟩]):=by kernel_rfl
theorem Jb:X.size 120=some 1:=by kernel_rfl
theorem AI:X.zero 120=some (.agg [.slc none 0 0 true]):=by kernel_rfl
theorem IH:X.elem 120=some 1:=by kernel_rfl
theorem sL:X.und 124=some (.struct #[⟨"bad",47,0,false,"","falsework/apply",0⟩,⟨"code",23,1,false,"","falsework/apply",8⟩]):=by kernel_rfl
theorem pE:X.size 124=some 2:=by kernel_rfl
theorem rp:X.zero 124=some (.agg [.nilFunc, .int .i64 (0)]):=by kernel_rfl
theorem Io:X.elem 124=some 2:=by kernel_rfl
theorem ve:X.und 126=some (.slice 124):=by kernel_rfl
theorem Gr:X.size 126=some 1:=by kernel_rfl
theorem Ik:X.zero 126=some (.slc none 0 0 true):=by kernel_rfl
theorem Ht:X.elem 126=some 1:=by kernel_rfl
theorem zW:X.und 132=some (.struct #[]):=by kernel_rfl
theorem H7:X.size 132=some 0:=by kernel_rfl
theorem AZ:X.zero 132=some (.agg []):=by kernel_rfl
theorem mT:X.und 134=some (.slice 3):=by kernel_rfl
theorem Gs:X.size 134=some 1:=by kernel_rfl
theorem HW:X.zero 134=some (.slc none 0 0 true):=by kernel_rfl
theorem Iz:X.elem 134=some 1:=by kernel_rfl
theorem Kt:X.und 144=some (.pointer 98):=by kernel_rfl
theorem Gn:X.size 144=some 1:=by kernel_rfl
theorem GD:X.zero 144=some (.ptr none):=by kernel_rfl
theorem Jw:X.elem 144=some 1:=by kernel_rfl
end Go.Proofs.Ytofohkdkpbigiaa
end
section
namespace Go.Am
noncomputable section
def nH (c:Nat):Nat:=match Nat.beq (Nat.mod c 2) 1 with
 |true=>Nat.xor (Nat.div c 2) 2197175160
 |false=>Nat.div c 2
def gZ:Nat→Nat→Nat
 |0,c=>c
 |j+1,c=>kN (nH c) fun c=>gZ j c
def tN (x:Str):Nat→Nat→Nat→Nat
 |0,_,c=>c
 |n+1,i,c=>kN (gZ 8 (Nat.xor c (x.at i))) fun c=>kN (i+1) fun i=>tN x n i c
def Bg (x:Str):Nat:=tN x x.len 0 4294967295
def nc:List AV→St→Option CR
 |[.str x],s=>match Nat.ble x.len 1000000000 with
  |true=>some (.ret (.int .u32 (.ofNat (Nat.xor 4294967295 (Bg x)))) s)
  |false=>none
 | _,_=>none
def qf:List AV→St→Option CR
 |[.int .u64 (.ofNat n)],s=>some (.ret (.flt .f64 n) s)
 | _,_=>none
end
end Go.Am
end
section
namespace Go.Am
noncomputable section
abbrev R:=Option (EX×Fr×St)
def P6 (X:Ctx)(call:dh)(o:Oper)(fr:Fr)(s:St)(k:Fr→St→R):R:=jg k (my call fr o.dst s (fZ X o fr s))
abbrev H:=Ctx→dh→Oper→Fr→St→(Fr→St→R)→R
section lemmas
variable {X:Ctx}{call:dh}{o:Oper}{fr:Fr}{s:St}{k:Fr→St→R}
end lemmas
abbrev VH:=Ctx→Fr→St→(AV→R)→R→R
def v0:VH:=fun _ _ _ _ d=>d
def h0:H:=P6
end
end Go.Am
end
section
namespace Go.Am
section
variable {X:Ctx}{call:dh}{o:Oper}{fr:Fr}{s:St}{k:AV→R}{d:R}
def VR2 (X:Ctx)(o:Oper)(fr:Fr)(s:St)(k:AV→R)(d r:R):Prop:=r=d∨∃u,(fZ X o fr s=some (.old u)∨fZ X o fr s=some (.pure u))∧r=k u
theorem VR2.no:VR2 X o fr s k d d:= .inl rfl
theorem VR2.old {u:AV}(h:fZ X o fr s=some (.old u)):VR2 X o fr s k d (k u):= .inr ⟨u, .inl h,rfl⟩
theorem VR2.pure {u:AV}(h:fZ X o fr s=some (.pure u)):VR2 X o fr s k d (k u):= .inr ⟨u, .inr h,rfl⟩
end
end Go.Am
end
section
namespace Go.Am
noncomputable section
inductive DS where
 |take (i:Nat) (o:Oper)
 |act (i:Nat) (o:Oper)
 |stop
def fS:List (Nat×Oper)→Nat→List DS×Nat
 |[],done=>([],done)
 |io::rest,done=>match rR done io.1 io.2 with
  |false=>fS rest done
  |true=>(.take io.1 io.2::(fS rest (Nat.lor done (Nat.pow 2 io.1))).1,(fS rest (Nat.lor done (Nat.pow 2 io.1))).2)
def nO (l:List (Nat×Oper)):Nat→Nat→List DS
 |0,_=>[.stop]
 |f+1,done=>(fS l done).1++match gC l (fS l done).2 with
  |[]=>[]
  |[io]=>match mC io.2 with
   |true=> .act io.1 io.2::nO l f (Nat.lor (fS l done).2 (Nat.pow 2 io.1))
   |false=>[.stop]
  | _=>[.stop]
def en (X:Ctx)(ops:Array Oper)(i:Nat)(o:Oper)(pend:List bn)(fr:Fr)(s:St)(k:List bn→Fr→St→R):R:=match kC X i o fr s (bI ops fr o) with
 |some (p,fr,s)=>k (p::pend) fr s
 |none=>none
def sH (X:Ctx)(call:dh)(ops:Array Oper)(o:Oper)(pend:List bn)(fr:Fr)(s:St)(k:List bn→Fr→St→R):R:=match eA X call ops o fr s with
 |some (.go fr s)=>match(pend.filter fun p=> !bS o p.i).all (m5 X ops fr s) with
  |true=>k (pend.filter fun p=> !bS o p.i) fr s
  |false=>none
 |some (.pan v fr s)=>some (.pan v,⟨.e,fr.d⟩,s)
 |none=>none
def py (X:Ctx)(call:dh)(ops:Array Oper):List DS→List bn→Fr→St→R
 |[],_,fr,s=>some (.norm,fr,s)
 | .take i o::l,pend,fr,s=>en X ops i o pend fr s (py X call ops l)
 | .act _ o::l,pend,fr,s=>sH X call ops o pend fr s (py X call ops l)
 | .stop::_,_,_,_=>none
theorem qJ {X:Ctx}{call:dh}{ops:Array Oper}(k:Nat→List bn→Fr→St→R)(m:List DS):∀ (l:List (Nat×Oper)) (done:Nat) (pend:List bn) (fr:Fr) (s:St),
  (∀pend fr s,py X call ops m pend fr s=k (fS l done).2 pend fr s)→lz X ops k l done pend fr s=py X call ops ((fS l done).1++m) pend fr s
 |[],done,pend,fr,s,h=>(h pend fr s).symm
 |io::rest,done,pend,fr,s,h=>by
  unfold lz
  unfold fS at h ⊢
  cases hm:rR done io.1 io.2 with
  |false=>
   rw[hm] at h
   exact qJ k m rest done pend fr s h
  |true=>
   rw[hm] at h
   show zq (lz X ops k rest) done io.1 pend (kC X io.1 io.2 fr s (bI ops fr io.2))=en X ops io.1 io.2 pend fr s (py X call ops ((fS rest (Nat.lor done (Nat.pow 2 io.1))).1++m))
   unfold zq en
   cases kC X io.1 io.2 fr s (bI ops fr io.2) with
   |none=>rfl
   |some q=>
    obtain⟨p,fr,s⟩:=q
    simp only[o9]
    exact qJ k m rest _ _ fr s h
theorem te {X:Ctx}{call:dh}{ops:Array Oper}{l:List (Nat×Oper)}:∀ (f done:Nat) (pend:List bn) (fr:Fr) (s:St),oF X call ops l f done pend fr s=py X call ops (nO l f done) pend fr s
 |0,_,_,_,_=>rfl
 |f+1,done,pend,fr,s=>by
  show lz X ops (fun done pend fr s=>AF X call ops (oF X call ops l f) done pend fr s (gC l done)) l done pend fr s=_
  unfold nO
  refine qJ _ _ l done pend fr s fun pend fr s=>?_
  show _=AF X call ops (oF X call ops l f) (fS l done).2 pend fr s (gC l (fS l done).2)
  generalize gC l (fS l done).2=rl
  match rl with
  |[]=>rfl
  |[io]=>
   simp only[AF]
   cases mC io.2 with
   |false=>rfl
   |true=>
    show sH X call ops io.2 pend fr s (py X call ops (nO l f _))=DB X ops (oF X call ops l f) (fS l done).2 io.1 io.2 pend (eA X call ops io.2 fr s)
    unfold sH DB
    cases eA X call ops io.2 fr s with
    |none=>rfl
    |some pr=>
     cases pr with
     |pan v fr s=>rfl
     |go fr s=>
      simp only[o9]
      cases(pend.filter fun p=> !bS io.2 p.i).all (m5 X ops fr s) with
      |false=>rfl
      |true=>exact(te f _ _ fr s).symm
  | _::_::_=>rfl
end
end Go.Am
end
section
namespace Go.Am
def Le {α:Type}(a b:Option α):Prop:=∀r,a=some r→b=some r
theorem Le.refl {α:Type}(a:Option α):Le a a:=fun _ h=>h
theorem Le.trans {α:Type}{a b c:Option α}(h:Le a b)(h':Le b c):Le a c:=fun r e=>h' r (h r e)
theorem Le.none {α:Type}{b:Option α}:Le Option.none b:=fun _ h=>by cases h
theorem Le.bind {α β:Type}{a b:Option α}{f g:Option α→Option β}(h:Le a b)(h0:f Option.none=Option.none)(hf:∀r,Le (f (some r)) (g (some r))):Le (f a) (g b):=by
 cases a with
 |none=>rw[h0];exact Le.none
 |some r=>rw[h r rfl];exact hf r
def uy (e f:Ev):Prop:=∀c fr s,Le (e c fr s) (f c fr s)
def HY (e f:dh):Prop:=∀t args s,Le (e t args s) (f t args s)
section
variable {X:Ctx}{e f:Ev}{c d:dh}
theorem Lz (h:HY c d)(fr:Fr)(dst:Option Nat)(s:St)(r:Option OR):Le (my c fr dst s r) (my d fr dst s r):=by
 match r with
 |none=>exact Le.refl _
 |some (.old _)=>exact Le.refl _
 |some (.pure _)=>exact Le.refl _
 |some (.val _ _)=>exact Le.refl _
 |some (.dfr _)=>exact Le.refl _
 |some (.pan _)=>exact Le.refl _
 |some (.call g args)=>
  simp only[my,mG]
  exact Le.bind (f:=iu fr dst) (g:=iu fr dst) (h _ _ _) rfl fun _=>Le.refl _
 |some (.round b args)=>
  simp only[my,mG]
  exact Le.bind (f:=iu fr dst) (g:=iu fr dst) (h _ _ _) rfl fun _=>Le.refl _
theorem BX (h:HY c d)(ops:Array Oper)(o:Oper)(fr:Fr)(s:St):Le (eA X c ops o fr s) (eA X d ops o fr s):=by
 unfold eA
 cases bI ops fr o with
 |none=>exact Le.refl _
 |some b=>cases b with
  |false=>exact Le.refl _
  |true=>exact Lz h _ _ _ _
theorem ES {k l:Fr→St→Option (EX×Fr×St)}(hk:∀fr s,Le (k fr s) (l fr s)){a b:Option PR}(h:Le a b):Le (jg k a) (jg l b):=
 Le.bind (f:=jg k) (g:=jg l) h rfl fun r=>by
  cases r with
  |go fr s=>exact hk fr s
  |pan v fr s=>exact Le.refl _
theorem q9 (h:HY c d)(ops:Array Oper):∀ (l:List Oper) (fr:Fr) (s:St),Le (nV X c ops l fr s) (nV X d ops l fr s)
 |[],_,_=>Le.refl _
 |o::l,fr,s=>ES (q9 h ops l) (BX h ops o fr s)
theorem uN (h:HY c d)(ops:Array Oper):∀ (l:List DS) (p:List bn) (fr:Fr) (s:St),Le (py X c ops l p fr s) (py X d ops l p fr s)
 |[],_,_,_=>Le.refl _
 | .stop::_,_,_,_=>Le.refl _
 | .take i o::l,p,fr,s=>by
  show Le (en X ops i o p fr s (py X c ops l)) (en X ops i o p fr s (py X d ops l))
  unfold en
  cases kC X i o fr s (bI ops fr o) with
  |none=>exact Le.refl _
  |some q=>exact uN h ops l _ _ _
 | .act i o::l,p,fr,s=>by
  show Le (sH X c ops o p fr s (py X c ops l)) (sH X d ops o p fr s (py X d ops l))
  unfold sH
  have h1:=BX (X:=X) h ops o fr s
  cases ha:eA X c ops o fr s with
  |none=>exact Le.none
  |some r=>
   rw[h1 r ha]
   cases r with
   |pan v fr s=>exact Le.refl _
   |go fr s=>
    simp only
    cases(p.filter fun p=> !bS o p.i).all (m5 X ops fr s) with
    |false=>exact Le.refl _
    |true=>exact uN h ops l _ _ _
theorem C9 (h:uy e f):∀ (c:Code) (m:DM) (fr:Fr) (s:St),Le (evS X e c m fr s) (evS X f c m fr s):=by
 have plain:∀ (c:Code) (m:DM) (fr:Fr) (s:St),Le (oz m (e c fr s)) (oz m (f c fr s)):=fun c m fr s=>
  Le.bind (f:=oz m) (g:=oz m) (h c fr s) rfl fun _=>Le.refl _
 intro c
 induction c with
 |seq a b iha ihb=>
  intro m fr s r hr
  simp only[evS] at hr ⊢
  cases ha:evS X e a m fr s with
  |none=>rw[ha] at hr;cases hr
  |some q=>
   rw[iha m fr s q ha]
   rw[ha] at hr
   obtain⟨x,fr1,s1,m1⟩:=q
   cases x with
   |norm=>exact ihb _ _ _ _ hr
   | _=>exact hr
 |region id ops draw=>
  intro m fr s
  simp only[evS]
  cases !draw&&ops.toList.any isRec with
  |true=>exact Le.refl _
  |false=>exact plain _ _ _ _
 | _=>intro m fr s;exact plain _ _ _ _
theorem Dl (h:uy e f)(d:qT)(m:DM)(s:St):Le (lD X e d m s) (lD X f d m s):=by
 unfold lD
 cases X.fns.get d.fn with
 |none=>exact Le.refl _
 |some fn=>
  simp only
  cases fn.body with
  |none=>exact Le.refl _
  |some c=>exact Le.bind (f:=Ae X fn) (g:=Ae X fn) (C9 h c m _ _) rfl fun _=>Le.refl _
theorem nD (h:uy e f)(fn:Func)(fr:Fr):∀ (l:List DE) (m:DM) (s:St),Le (leave X e fn fr l m s) (leave X f fn fr l m s)
 |[], .ret,_=>Le.refl _
 |[], .pan _,_=>Le.refl _
 |[], .rcv _,_=>Le.refl _
 | .fn d::ds,m,s=>by
  simp only[leave]
  have h1:=Dl (X:=X) h d m s
  cases ha:lD X e d m s with
  |none=>exact Le.none
  |some q=>rw[h1 q ha];exact nD h fn fr ds _ _
 | .mark b::ds,m,s=>by
  simp only[leave]
  cases tv b s (s.h.get b) with
  |none=>exact Le.refl _
  |some s=>exact nD h fn fr ds _ _
theorem GV (h:uy e f)(fn:Func){a b:Option (EX×Fr×St)}(hab:Le a b):Le (rD X e fn a) (rD X f fn b):=
 Le.bind (f:=rD X e fn) (g:=rD X f fn) hab rfl fun r=>by
  obtain⟨x,fr,s⟩:=r
  cases x with
  |norm=>exact nD h _ _ _ _ _
  |ret=>exact nD h _ _ _ _ _
  |pan v=>exact nD h _ _ _ _ _
  |brk i=>exact Le.refl _
theorem pG (h:uy e f)(g:FuncId)(args:List AV)(s:St):Le (dE X e g args s) (dE X f g args s):=by
 unfold dE
 cases X.fns.get g with
 |none=>exact Le.refl _
 |some fn=>
  simp only
  cases fn.body with
  |none=>exact Le.refl _
  |some c=>exact GV h fn (h c _ _)
theorem De (h:uy e f)(b:Nat)(args:List AV)(s:St):Le (mQ e b args s) (mQ f b args s):=by
 unfold mQ Er
 split
 ·rename_i t ps QQ bd _
  show Le (yl e b QQ bd s (jE ps args t)) (yl f b QQ bd s (jE ps args t))
  unfold yl
  cases jE ps args t with
  |none=>exact Le.refl _
  |some t=>
   refine Le.bind (f:=nB e b bd) (g:=nB f b bd) (h QQ _ _) rfl fun r=>?_
   obtain⟨x,fr,s⟩:=r
   cases x with
   |norm=>
    show Le (pS e b bd fr s (s.h.get b)) (pS f b bd fr s (s.h.get b))
    unfold pS
    split
    ·exact Le.bind (f:=rP b) (g:=rP b) (h bd _ _) rfl fun _=>Le.refl _
    ·exact Le.refl _
   | _=>exact Le.refl _
 ·exact Le.refl _
theorem Di (h:uy e f)(ps:List Nat)(QQ bd:Code)(fr:Fr)(s:St)(v:AV):Le (ov X e ps QQ bd fr s v) (ov X f ps QQ bd fr s v):=by
 unfold ov
 split
 ·unfold rq
  simp only[mG,oW]
  refine Le.bind (f:=ta e fr _ _) (g:=ta f fr _ _) (pG h _ _ _) rfl fun r=>?_
  cases r with
  |pan v s=>exact Le.refl _
  |ret v s=>
   simp only[ta]
   unfold pZ
   split
   ·exact Le.refl _
   ·rename_i c _
    cases wE c with
    |false=>exact Le.refl _
    |true=>exact h _ _ _
   ·exact Le.refl _
 ·exact Le.refl _
variable {own:bj}
theorem jL (h:uy e f):HY (cF X own e) (cF X own f):=fun t args s=>by
 cases t with
 |rnd b=>exact De h _ _ _
 |fn g=>
  show Le (fN X own e g args s) (fN X own f g args s)
  unfold fN
  cases own g with
  |some k=>exact Le.refl _
  |none=>exact pG h _ _ _
theorem Gb (h:uy e f):uy (px X own e) (px X own f):=fun c fr s=>by
 cases c with
 |skip=>exact Le.refl _
 |label _=>exact Le.refl _
 |region id ops draw=>
  simp only[px,wQ]
  cases draw with
  |false=>exact q9 (jL h) _ _ _ _
  |true=>simp only[te];exact uN (jL h) _ _ _ _ _
 |seq a b=>
  refine Le.bind (f:=mF e b) (g:=mF f b) (h a fr s) rfl fun r=>?_
  obtain⟨x,fr,s⟩:=r
  cases x with
  |norm=>exact h _ _ _
  | _=>exact Le.refl _
 |cond x a b=>
  show Le (qM e a b fr s (fr.opd x)) (qM f a b fr s (fr.opd x))
  unfold qM
  split
  ·exact h _ _ _
  ·exact h _ _ _
  ·exact Le.refl _
 |block id b=>exact Le.bind (f:=mJ id) (g:=mJ id) (h b fr s) rfl fun _=>Le.refl _
 |loop b=>
  refine Le.bind (f:=mF e (.loop b)) (g:=mF f (.loop b)) (h b fr s) rfl fun r=>?_
  obtain⟨x,fr,s⟩:=r
  cases x with
  |norm=>exact h _ _ _
  | _=>exact Le.refl _
 |exit _=>exact Le.refl _
 |scope b=>exact h _ _ _
 |ret=>exact Le.refl _
 |goto _=>exact Le.refl _
 |refuse _=>exact Le.refl _
 |rangeFunc g ps QQ bd=>exact Di h _ _ _ _ _ _
theorem M4 (n:Nat):uy (ev X own n) (ev X own (n+1)):=by
 induction n with
 |zero=>exact fun _ _ _=>Le.none
 |succ n ih=>exact Gb ih
theorem kJ {n m:Nat}(h:n≤m):uy (ev X own n) (ev X own m):=by
 induction h with
 |refl=>exact fun _ _ _=>Le.refl _
 |step _ ih=>exact fun c fr s=>(ih c fr s).trans (M4 _ c fr s)
end
end Go.Am
end
