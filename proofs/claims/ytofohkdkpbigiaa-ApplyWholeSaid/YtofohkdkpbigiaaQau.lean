/-
  A part of the texts.
-/
import Derived.Test.YtofohkdkpbigiaaQat
section
namespace Go.Proofs.Ytofohkdkpbigiaa
open Go.Am
set_option maxRecDepth 10000
set_option maxHeartbeats 1000000
set_option linter.unusedSimpArgs false
section
variable {O:bj}
theorem Hj:X.fns.get 48=some Try.f48:=by kernel_rfl
theorem IQ {b k x:Nat}{c c':Tr AV}{v1 v2 v3:Int}{v4:Str}{t0:Tr AB}{g:Tr (Tr AV)}{sh:List Nat}(hs:stL [.int .i64 v1, .int .i64 v2, .int .u64 v3, .str v4] 0 c=some c'):cK X 77 (.ptr (some (b,0))) (.agg [.int .i64 v1, .int .i64 v2, .int .u64 v3, .str v4]) {h:=t0.put b (.cells c k),nx:=x,gl:=g,sh:=sh}=some (.val (.tup []) {h:=(t0.put b (.cells c k)).put b (.cells c' k),nx:=x,gl:=g,sh:=sh}):=
 dC dH rfl rfl hs
theorem Fp {s:St}{v:Vl}:bB X 74 1 [(0, .agg (vl v))] s=some (.val (.slc (some (s.nx,0,4)) 1 1 true) {s with h:=s.h.put s.nx (.cells (Tr.of (vl v)) 4),nx:=s.nx+1}):=
 jF (cs:=vl v) iA dH nN rfl (by decide) (by decide) rfl rfl
theorem CJ {s:St}{a:Option (Nat×Nat×Nat)}{n c:Nat}{x:Bool}:bB X 38 1 [(0, .slc a n c x)] s=some (.val (.slc (some (s.nx,0,1)) 1 1 true) {s with h:=s.h.put s.nx (.cells (Tr.of [.slc a n c x]) 1),nx:=s.nx+1}):=
 nW eO ey Ew rfl
theorem cY {s s':St}{rb:Nat}{v:AV}{α:Type}{f:α→AV}{o:Option (α×Str)}(h:RdP s rb (o.map fun p=>(f p.1,p.2)) (.pan v s')):o=none∧v=jz∧Am.Mod (fun c=>c=rb) s s':=by
 obtain⟨h1,h2,h3⟩:=qc h
 refine⟨?_,h2,h3⟩
 cases o with
 |none=>rfl
 |some p=>cases h1
theorem rd_some {s s':St}{rb:Nat}{v:AV}{α:Type}{f:α→AV}{o:Option (α×Str)}(h:RdP s rb (o.map fun p=>(f p.1,p.2)) (.ret v s')):∃a T,o=some (a,T)∧v=f a∧Bx s' rb [.str T]∧Am.Mod (fun c=>c=rb) s s'∧T.ok:=by
 obtain⟨T,h1,h2⟩:=p8 h
 cases o with
 |none=>cases h1
 |some p=>
  obtain⟨a,T'⟩:=p
  simp only[Option.map_some,Option.some.injEq,Prod.mk.injEq] at h1
  obtain⟨rfl,rfl⟩:=h1
  exact⟨a,T',rfl,rfl,h2⟩
theorem xO {α β:Type}{R:α→β→Prop}:∀ {l:List α} {m:List β} {a:α} {b:β},dM R l m→R a b→dM R (l++[a]) (m++[b])
 |[],[],_,_,_,h=>⟨h,trivial⟩
 |[],_::_,_,_,h,_=>h.elim
 | _::_,[],_,_,h,_=>h.elim
 | _::_,_::_,_,_,⟨h1,h2⟩,h=>⟨h1,xO h2 h⟩
def IB (s:St)(rb:Nat)(p:Option (List (List Vl)×Str)):CR→Prop:=fun r=>match p with
 |some (rows,T)=>∃xv s',r= .ret xv s'∧oP s' (fun d=>s.nx≤d∧d<s'.nx) xv rows∧Bx s' rb [.str T]∧Am.Mod (fun c=>c=rb) s s'∧T.ok
 |none=>∃s',r= .pan jz s'∧Am.Mod (fun c=>c=rb) s s'
theorem Cz (ho:RdO O)(hr:O 48=none){s:St}{rb:Nat}{T:Str}(h:Bx s rb [.str T])(hT:T.len≤100000):
  Ca X O (.fn 48) [.ptr (some (rb,0))] s (IB s rb (km T)):=by
 refine bb hr Hj rfl ?_
 unfold aD aD
 refine uG ?_
 refine aj (iJ ho h (by omega)) ?_ ?_
 ·intro v s1 hrd
  obtain⟨n,T1,hn,rfl,h1,hm1,hok1⟩:=rd_some (f:=fun n:Nat=>AV.int .i64 (n:Int)) hrd
  have hle:=nd hn
  have hrows:km T=ni [] (rdM kO n T1):=by unfold km;rw[hn,jS]
  rw[hrows]
  refine uL ?_
  refine uH ?_
  have hrbn:=h.lt
  let I:Nat×AV×List (List Vl)→Sl→St→Prop:=fun w L s'=>(∃Tc,ni [] (rdM kO n T1)=ni w.2.2 (rdM kO w.1 Tc)∧Bx s' rb [.str Tc]∧Tc.len≤100000∧Tc.ok)∧Am.Mod (fun c=>c=rb) s s'∧w.1+w.2.2.length=n∧
   (∃vs,Am.Acc s' w.2.1 1 (vs.map fun v=>[v])∧(∀c,blk w.2.1=some c→s.nx≤c)∧dM (fun v r=>Sli s' v 4 (r.map vl)∧∀c,blk v=some c→s.nx≤c∧c<s'.nx∧blk w.2.1≠some c) vs w.2.2)∧
   L=[(0, .ptr (some (rb,0))),(3,w.2.1),(4, .int .i64 (w.1:Int))]
  refine WL.less (M:=[(0, .ptr (some (rb,0))),(3, .slc none 0 0 true),(4, .int .i64 (n:Int))]) ?_ rfl
  refine aV I (fun w=>w.1) ?_ n (n, .slc none 0 0 true,[]) _ s1 (Nat.le_refl _) ⟨⟨T1,rfl,h1,by omega,hok1⟩,hm1,rfl,⟨[],Acc.nil,fun c hc=>(by cases hc),trivial⟩,rfl⟩
  rintro⟨k,out,acc⟩ L s2 ⟨⟨Tc,hpre,h2,hTc,hokc⟩,hm2,hkn,⟨vs,hacc,hob,hvs⟩,rfl⟩
  simp only at hpre hkn hacc hob hvs ⊢
  obtain⟨ao,co,xo,rfl,_⟩:=hacc.sli.ex
  simp only[List.length_map] at hacc hob hvs ⊢
  refine uG ?_
  refine uJ [0,3,4,11] ?_
  refine ae rfl rfl (fun hc2=>?_) (fun hc2=>?_)
  ·obtain⟨k',rfl⟩:∃k',k=k'+1:=⟨k- 1,by simp at hc2;omega⟩
   refine uG ?_
   refine aj (iJ ho h2 (by omega)) ?_ ?_
   ·intro v s3 hrd3
    obtain⟨n3,T3,hn3,rfl,h3,hm3,hok3⟩:=rd_some (f:=fun n:Nat=>AV.int .i64 (n:Int)) hrd3
    have hle3:=nd hn3
    have hrow:kO Tc=ni [] (rdM nI n3 T3):=by unfold kO;rw[hn3,jS]
    have hm03:=hm2.trans hm3 (fun _ _ e=>e)
    refine uL ?_
    refine uH ?_
    have hlk:=hle.1
    have bad:kO Tc=none→∀ {s'},Am.Mod (fun c=>c=rb) s s'→IB s rb (ni [] (rdM kO n T1)) (.pan jz s'):=fun hb s' hm=>by
     rw[hpre,lJ hb]
     exact⟨s',rfl,hm⟩
    let J:Nat×AV×List Vl→Sl→St→Prop:=fun w L s'=>(∃Tj,rdM nI n3 T3=ni w.2.2 (rdM nI w.1 Tj)∧Bx s' rb [.str Tj]∧Tj.len≤100000∧Tj.ok)∧Am.Mod (fun c=>c=rb) s3 s'∧w.1+w.2.2.length=n3∧
     (Am.Acc s' w.2.1 4 (w.2.2.map vl)∧∀c,blk w.2.1=some c→s3.nx≤c)∧
     L=[(0, .ptr (some (rb,0))),(3, .slc ao vs.length co xo),(4, .int .i64 ((k'+1:Nat):Int)),(5,w.2.1),(6, .int .i64 (w.1:Int))]
    refine WL.less (M:=[(0, .ptr (some (rb,0))),(3, .slc ao vs.length co xo),(4, .int .i64 ((k'+1:Nat):Int)),(5, .slc none 0 0 true),(6, .int .i64 (n3:Int))]) ?_ rfl
    refine aV J (fun w=>w.1) ?_ n3 (n3, .slc none 0 0 true,[]) _ s3 (Nat.le_refl _) ⟨⟨T3,(jS _).symm,h3,by omega,hok3⟩,Mod.refl _ _,rfl,⟨Acc.nil,fun c hc=>(by cases hc)⟩,rfl⟩
    rintro⟨j,l,av⟩ L s4 ⟨⟨Tj,hpj,h4,hTj,hokj⟩,hm4,hjn,⟨hla,hlb⟩,rfl⟩
    simp only at hpj hjn hla hlb ⊢
    obtain⟨al,cl,xl,rfl,_⟩:=hla.sli.ex
    simp only[List.length_map] at hla hlb ⊢
    have hm04:=hm03.trans hm4 (fun _ _ e=>e)
    have n34:=hm4.nx
    have n03:=hm03.nx
    refine uG ?_
    refine uJ [0,3,4,5,6,17] ?_
    refine ae rfl rfl (fun hc3=>?_) (fun hc3=>?_)
    ·obtain⟨j',rfl⟩:∃j',j=j'+1:=⟨j- 1,by simp at hc3;omega⟩
     have badj:nI Tj=none→kO Tc=none:=fun hb=>by rw[hrow,jS,hpj,lJ hb]
     have hrb4:=h4.lt
     refine uG ?_
     refine aj (eU ho h4 (by omega)) ?_ ?_
     ·intro v s5 hx5
      obtain⟨vk,T5,e5,rfl,h5,hm5,hok5⟩:=rd_some (f:=fun n:Int=>AV.int .i64 n) hx5
      have r5:=cH e5
      obtain⟨cc,hcc,_⟩:=ej (cs:=[.int .i64 vk, .int .i64 0, .int .u64 0, .str bu]) (zs:=[.int .i64 0, .int .i64 0, .int .u64 0, .str ⟨0,0⟩]) rfl
      refine bD (by simp(disch:=omega) only[uB,uT,gd,bQ nN rfl,AV.cells,IQ hcc];exact rfl) ?_
      refine uH ?_
      refine dy hcc fun s6 hn6 hm6 g6=>?_
      have n5:=hm5.nx
      have h6:=h5.no hm6
      refine uG ?_
      refine aj (qX ho h6 (by omega)) ?_ ?_
      ·intro v s7 hx7
       obtain⟨vn,T7,e7,rfl,h7,hm7,hok7⟩:=rd_some (f:=fun n:Nat=>AV.int .u64 (n:Int)) hx7
       have r7:=zt e7
       have g7:=g6.mod hm7 (by omega)
       obtain⟨s8,st8,g8,hm8,n8⟩:=g7.stm (X:=X) (t:=2) (i:=1) (w:= .int .i64 (i64 vn)) rfl jH rfl rfl
       have h8:=h7.mod hm8 (by omega)
       refine bD (by simp(disch:=omega) only[uB,uT,ze fa lS,eB,Nat.zero_add,st8];exact rfl) ?_
       refine uG ?_
       refine aj (qX ho h8 (by omega)) ?_ ?_
       ·intro v s9 hx9
        obtain⟨vf,T9,e9,rfl,h9,hm9,hok9⟩:=rd_some (f:=fun n:Nat=>AV.int .u64 (n:Int)) hx9
        have r9:=zt e9
        have g9:=g8.mod hm9 (by omega)
        obtain⟨s10,Gg,g10,hm10,n10⟩:=g9.stm (X:=X) (t:=75) (i:=2) (w:= .int .u64 (vf:Int)) rfl gF rfl rfl
        have h10:=h9.mod hm10 (by omega)
        refine bD (by simp(disch:=omega) only[uB,uT,fc,Nat.zero_add,Gg];exact rfl) ?_
        refine uG ?_
        refine aj (iw ho h10 (by omega)) ?_ ?_
        ·intro v s11 hx11
         obtain⟨vs4,T11,e11,rfl,h11,hm11,hok11⟩:=rd_some (f:=fun n:Str=>AV.str n) hx11
         have r11:=fp e11
         have g11:=g10.mod hm11 (by omega)
         obtain⟨s12,JE,g12,hm12,n12⟩:=g11.stm (X:=X) (t:=9) (i:=3) (w:= .str vs4) rfl aF rfl rfl
         have h12:=h11.mod hm12 (by omega)
         have hv:nI Tj=some (⟨vk,i64 vn,vf,vs4⟩,T11):=by
          unfold nI;rw[e5];simp only;rw[e7];simp only;rw[e9];simp only;rw[e11]
         obtain⟨q,hq⟩:∃q:Vl,q=⟨vk,i64 vn,vf,vs4⟩:=⟨_,rfl⟩
         have g12:Bx s12 s5.nx (vl q):=by rw[hq];exact g12
         rw[←hq] at hv
         have hm412:Am.Mod (fun c=>c=rb) s4 s12:=by
          have a1:=hm5.trans hm6 (fun _ _ e=>e.elim)
          have a2:=a1.trans hm7 (fun _ _ e=>e)
          have a3:=a2.trans hm8 (fun c hc e=>by omega)
          have a4:=a3.trans hm9 (fun _ _ e=>e)
          have a5:=a4.trans hm10 (fun c hc e=>by omega)
          have a6:=a5.trans hm11 (fun _ _ e=>e)
          exact a6.trans hm12 (fun c hc e=>by omega)
         have hlb':∀c,blk (.slc al av.length cl xl)=some c→c≠rb:=fun c hc e=>by have:=hlb c hc;omega
         have hla12:=hla.mod hm412 hlb'
         let s13:St:={s12 with h:=s12.h.put s12.nx (.cells (Tr.of (vl q)) 4),nx:=s12.nx+1}
         have hm13:Am.Mod No s12 s13:=(Mod.refl _ s12).new _
         have hsrc:aZ s13 4 (.slc (some (s12.nx,0,4)) 1 1 true)=some ([vl q].length,[vl q].flatten):=gB (rows:=[vl q]) rfl (fun r hr=>by rcases List.mem_singleton.mp hr with rfl;rfl) bm rfl
         have hlen13:(av.map vl).length+[vl q].length≤1000000:=by simp;omega
         obtain⟨l14,s14,ap14,acc14,hm14,hb14⟩:=gG iA EI (hla12.mod hm13 (fun _ _ h=>h)) hsrc (fun r hr=>by rcases List.mem_singleton.mp hr with rfl;rfl) (by simp) rfl hlen13
         rw[show av.map vl++[vl q]=(av++[q]).map vl by simp] at acc14
         simp only[s13] at ap14
         have all12:=g12.all (X:=X) fL rfl dH
         have hm414:Am.Mod (fun c=>c=rb) s3 s14:=by
          have b1:=(hm4.trans hm412 (fun _ _ e=>e)).trans hm13 (fun _ _ e=>e.elim)
          exact b1.trans hm14 (fun c hc e=>by have:=hlb c e;omega)
         have n13:s13.nx=s12.nx+1:=rfl
         have n412:=hm412.nx
         have h14:Bx s14 rb [.str T11]:=(h12.no hm13).mod hm14 (fun e=>by have:=hlb rb e;omega)
         refine bD (by simp(disch:=omega) only[uB,uT,eQ,Nat.zero_add,JE];exact rfl) ?_
         repeat(first|refine uS ?_ |refine aa rfl ?_ |refine ad (by simp(disch:=omega) only[uB,uT,all12,Fp,fM iA (.inl rfl),ap14];exact rfl) ?_)
         exact aH (j',l14,av++[q]) [(0, .ptr (some (rb,0))),(3, .slc ao vs.length co xo),(4, .int .i64 ((k'+1:Nat):Int)),(5,l14),(6, .int .i64 (j':Int))] ⟨⟨T11,by simp only;rw[hpj,nw hv],h14,by omega,hok11⟩,hm414,by simp only[List.length_append,List.length_cons,List.length_nil];omega,⟨acc14,fun c hc=>by simp only at hc;rw[hb14] at hc;simp only[Option.some.injEq] at hc;omega⟩,rfl⟩ (Nat.lt_succ_self _) (by simp[aI,az])
        ·intro v s11 hx11
         obtain⟨e11,rfl,hm11⟩:=cY (f:=fun n:Str=>AV.str n) hx11
         have hv:nI Tj=none:=by unfold nI;rw[e5];simp only;rw[e7];simp only;rw[e9];simp only;rw[e11]
         refine uH ?_
         refine bX ?_
         refine bad (badj hv) ?_
         have a1:=hm5.trans hm6 (fun _ _ e=>e.elim)
         have a2:=a1.trans hm7 (fun _ _ e=>e)
         have a3:=a2.trans hm8 (fun c hc e=>by omega)
         have a4:=a3.trans hm9 (fun _ _ e=>e)
         have a5:=a4.trans hm10 (fun c hc e=>by omega)
         exact hm04.trans (a5.trans hm11 (fun _ _ e=>e)) (fun _ _ e=>e)
       ·intro v s9 hx9
        obtain⟨e9,rfl,hm9⟩:=cY (f:=fun n:Nat=>AV.int .u64 (n:Int)) hx9
        have hv:nI Tj=none:=by unfold nI;rw[e5];simp only;rw[e7];simp only;rw[e9]
        refine uH ?_
        refine bX ?_
        refine bad (badj hv) ?_
        have a1:=hm5.trans hm6 (fun _ _ e=>e.elim)
        have a2:=a1.trans hm7 (fun _ _ e=>e)
        have a3:=a2.trans hm8 (fun c hc e=>by omega)
        exact hm04.trans (a3.trans hm9 (fun _ _ e=>e)) (fun _ _ e=>e)
      ·intro v s7 hx7
       obtain⟨e7,rfl,hm7⟩:=cY (f:=fun n:Nat=>AV.int .u64 (n:Int)) hx7
       have hv:nI Tj=none:=by unfold nI;rw[e5];simp only;rw[e7]
       refine uH ?_
       refine bX ?_
       refine bad (badj hv) ?_
       exact hm04.trans ((hm5.trans hm6 (fun _ _ e=>e.elim)).trans hm7 (fun _ _ e=>e)) (fun _ _ e=>e)
     ·intro v s5 hx5
      obtain⟨e5,rfl,hm5⟩:=cY (f:=fun n:Int=>AV.int .i64 n) hx5
      have hv:nI Tj=none:=by unfold nI;rw[e5]
      refine uH ?_
      refine bX ?_
      exact bad (badj hv) (hm04.trans hm5 (fun _ _ e=>e))
    ·have:j=0:=by simp at hc3;omega
     subst this
     have hrowv:kO Tc=some (av,Tj):=by
      rw[hrow,jS,hpj]
      show some (av++[],Tj)=_
      rw[List.append_nil]
     let s5:St:={s4 with h:=s4.h.put s4.nx (.cells (Tr.of [.slc al av.length cl xl]) 1),nx:=s4.nx+1}
     have hm45:Am.Mod No s4 s5:=(Mod.refl _ s4).new _
     have hrb2:∀c,blk (.slc ao vs.length co xo)=some c→c≠rb:=fun c hc e=>by have:=hob c hc;omega
     have hm24:=hm3.trans hm4 (fun _ _ e=>e)
     have hsrc:aZ s5 1 (.slc (some (s4.nx,0,1)) 1 1 true)=some ([[AV.slc al av.length cl xl]].length,[[AV.slc al av.length cl xl]].flatten):=gB (rows:=[[AV.slc al av.length cl xl]]) rfl (fun r hr=>by rcases List.mem_singleton.mp hr with rfl;rfl) bm rfl
     have hvl2:=hvs.len
     have hlen5:(vs.map fun v=>[v]).length+[[AV.slc al av.length cl xl]].length≤1000000:=by simp;omega
     obtain⟨o6,s6,ap6,acc6,hm6,hb6⟩:=gG eO Ec ((hacc.mod hm24 hrb2).mod hm45 (fun _ _ h=>h)) hsrc (fun r hr=>by rcases List.mem_singleton.mp hr with rfl;rfl) (by simp) rfl hlen5
     rw[show(vs.map fun v=>[v])++[[AV.slc al av.length cl xl]]=(vs++[AV.slc al av.length cl xl]).map fun v=>[v] by simp] at acc6
     simp only[s5] at ap6
     have n5:s5.nx=s4.nx+1:=rfl
     have n2:=hm2.nx
     have n24:=hm24.nx
     have n6:=hm6.nx
     have hm06:Am.Mod (fun c=>c=rb) s s6:=(hm04.trans hm45 (fun _ _ e=>e.elim)).trans hm6 (fun c hc e=>by have:=hob c e;omega)
     have h6:Bx s6 rb [.str Tj]:=(h4.no hm45).mod hm6 (fun e=>by have:=hob rb e;omega)
     have hvs6:dM (fun v r=>Sli s6 v 4 (r.map vl)∧∀c,blk v=some c→s.nx≤c∧c<s6.nx∧blk o6≠some c) (vs++[AV.slc al av.length cl xl]) (acc++[av]):=by
      refine xO (hvs.mono fun v r _ _ hh=>⟨?_,fun c hc=>?_⟩) ⟨?_,fun c hc=>?_⟩
      ·refine((hh.1.mod hm24 fun c hc e=>?_).mod hm45 (fun _ _ h=>h)).mod hm6 fun c hc e=>(hh.2 c hc).2.2 e
       have:=(hh.2 c hc).1;omega
      ·have:=hh.2 c hc
       refine⟨this.1,by omega,fun e=>?_⟩
       rw[hb6] at e
       simp only[Option.some.injEq] at e;omega
      ·have hl:=hla.sli
       refine(hl.mod hm45 (fun _ _ h=>h)).mod hm6 fun c hc e=>?_
       have g1:=hacc.lt e
       have g2:=hlb c hc
       have:=hm3.nx
       omega
      ·have g1:=hla.lt hc
       have g2:=hlb c hc
       refine⟨by omega,by omega,fun e=>?_⟩
       rw[hb6] at e
       simp only[Option.some.injEq] at e;omega
     repeat(first|refine uS ?_ |refine aa rfl ?_ |refine ad (by simp(disch:=omega) only[uB,uT,CJ,fM eO (.inl rfl),ap6];exact rfl) ?_)
     exact aH (k',o6,acc++[av]) [(0, .ptr (some (rb,0))),(3,o6),(4, .int .i64 (k':Int))] ⟨⟨Tj,by simp only;rw[hpre,nw hrowv],h6,by omega,hokj⟩,hm06,by simp only[List.length_append,List.length_cons,List.length_nil];omega,⟨_,acc6,fun c hc=>by simp only at hc;rw[hb6] at hc;simp only[Option.some.injEq] at hc;omega,hvs6⟩,rfl⟩ (Nat.lt_succ_self _) (by simp[aI,az])
   ·intro v s3 hrd3
    obtain⟨hn3,rfl,hm3⟩:=cY (f:=fun n:Nat=>AV.int .i64 (n:Int)) hrd3
    have:kO Tc=none:=by unfold kO;rw[hn3]
    rw[hpre,lJ this]
    refine uH ?_
    refine bX ?_
    exact⟨s3,rfl,hm2.trans hm3 (fun _ _ e=>e)⟩
  ·have:k=0:=by simp at hc2;omega
   subst this
   refine uG ?_
   refine ai rfl ?_
   rw[hpre]
   show IB s rb (some (acc++[],Tc)) _
   rw[List.append_nil]
   refine⟨_,s2,rfl,⟨vs,hacc.sli,fun c hc=>⟨hob c hc,hacc.lt hc⟩,hvs.mono fun v r _ _ hh=>⟨hh.1,fun c hc=>⟨(hh.2 c hc).1,(hh.2 c hc).2.1⟩⟩⟩,h2,hm2,hokc⟩
 ·intro v s1 hrd
  obtain⟨hn,rfl,hm⟩:=cY (f:=fun n:Nat=>AV.int .i64 (n:Int)) hrd
  have hrows:km T=none:=by unfold km;rw[hn]
  rw[hrows]
  refine uH ?_
  refine bX ?_
  exact⟨s1,rfl,hm⟩
end
end Go.Proofs.Ytofohkdkpbigiaa
end
