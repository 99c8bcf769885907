/-
  A part of the texts.
-/
import Derived.Test.YtofohkdkpbigiaaQau
section
namespace Go.Proofs.Ytofohkdkpbigiaa
open Go.Am
set_option maxRecDepth 10000
set_option maxHeartbeats 1000000
set_option linter.unusedSimpArgs false
def qj (T:Str):Option ((Str×Str)×Str):=match rdT T with
 |some (a,T1)=>match rdT T1 with
  |some (b,T2)=>some ((a,b),T2)
  |none=>none
 |none=>none
def pK (T:Str):Option ((Str×Str×Bool)×Str):=match rdT T with
 |some (a,T1)=>match rdT T1 with
  |some (b,T2)=>match rdN T2 with
   |some (d,T3)=>some ((a,b,decide (d=1)),T3)
   |none=>none
  |none=>none
 |none=>none
def rdL {α:Type}(f:Str→Option (α×Str))(T:Str):Option (List α×Str):=match rdC T with
 |some (n,T1)=>rdM f n T1
 |none=>none
def rdZ (c:Cmd)(T:Str):Option (Cmd×Str):=match km T with
 |some (rows,T')=>some ({c with rows:=rows},T')
 |none=>none
def rdY (c:Cmd)(T:Str):Option (Cmd×Str):=match rdN T with
 |some (n,T')=>rdZ {c with code:=n} T'
 |none=>none
def rdX (c:Cmd)(T:Str):Option (Cmd×Str):=match rdT T with
 |some (t,T')=>rdY {c with text:=t} T'
 |none=>none
def rdV (c:Cmd)(T:Str):Option (Cmd×Str):=match rdN T with
 |some (a,T1)=>match rdN T1 with
  |some (b,T2)=>match rdN T2 with
   |some (d,T3)=>rdX {c with dl:=a,after:=b,held:=d} T3
   |none=>none
  |none=>none
 |none=>none
def rdU (c:Cmd)(T:Str):Option (Cmd×Str):=match rdL pK T with
 |some (l,T')=>rdV {c with writes:=l} T'
 |none=>none
def rdQ (c:Cmd)(T:Str):Option (Cmd×Str):=match rdL qj T with
 |some (l,T')=>rdU {c with ranges:=l} T'
 |none=>none
def rdK (c:Cmd)(T:Str):Option (Cmd×Str):=match rdL rdT T with
 |some (l,T')=>rdQ {c with keys:=l} T'
 |none=>none
def noC:Cmd:=⟨0,0,0,0,[],[],[],0,0,0,bu,0,[]⟩
def gI (T:Str):Option (Cmd×Str):=match rdN T with
 |some (a,T1)=>match rdN T1 with
  |some (b,T2)=>match rdN T2 with
   |some (d,T3)=>match rdN T3 with
    |some (e,T4)=>rdK {noC with kind:=a,client:=b,seq:=d,snap:=e} T4
    |none=>none
   |none=>none
  |none=>none
 |none=>none
theorem KL {T T':Str}{r:Str×Str}(h:qj T=some (r,T')):(r.1.ok∧r.2.ok)∧T'.len+aM (eI r)=T.len:=by
 unfold qj at h
 cases h1:rdT T with
 |none=>rw[h1] at h;cases h
 |some p=>
  obtain⟨a,T1⟩:=p
  rw[h1] at h
  simp only at h
  cases h2:rdT T1 with
  |none=>rw[h2] at h;cases h
  |some p=>
   obtain⟨b,T2⟩:=p
   rw[h2] at h
   simp only[Option.some.injEq,Prod.mk.injEq] at h
   obtain⟨rfl,rfl⟩:=h
   have a1:=fp h1
   have a2:=fp h2
   refine⟨⟨a1.2,a2.2⟩,?_⟩
   rw[eI,aA,bg,bg]
   simp only
   omega
theorem K4 {T T':Str}{r:Str×Str×Bool}(h:pK T=some (r,T')):(r.1.ok∧r.2.1.ok)∧T'.len+aM (dL r)=T.len:=by
 unfold pK at h
 cases h1:rdT T with
 |none=>rw[h1] at h;cases h
 |some p=>
  obtain⟨a,T1⟩:=p
  rw[h1] at h
  simp only at h
  cases h2:rdT T1 with
  |none=>rw[h2] at h;cases h
  |some p=>
   obtain⟨b,T2⟩:=p
   rw[h2] at h
   simp only at h
   cases h3:rdN T2 with
   |none=>rw[h3] at h;cases h
   |some p=>
    obtain⟨d,T3⟩:=p
    rw[h3] at h
    simp only[Option.some.injEq,Prod.mk.injEq] at h
    obtain⟨rfl,rfl⟩:=h
    have a1:=fp h1
    have a2:=fp h2
    have a3:=cH h3
    refine⟨⟨a1.2,a2.2⟩,?_⟩
    rw[dL,aA,aA,bg,bg]
    show _+(_+8)=_
    simp only
    omega
theorem Dx {α:Type}{f:Str→Option (α×Str)}{P:α→Prop}{g:α→List Str}(hf:∀T T' a,f T=some (a,T')→P a∧T'.len+aM (g a)=T.len){T T':Str}{l:List α}(h:rdL f T=some (l,T')):(∀a∈l,P a)∧T'.len+(8+aM (l.map g).flatten)=T.len:=by
 unfold rdL at h
 cases h1:rdC T with
 |none=>rw[h1] at h;cases h
 |some p=>
  obtain⟨n,T1⟩:=p
  rw[h1] at h
  have a1:=nd h1
  obtain⟨k1,k2,_⟩:=Ao hf h
  exact⟨k1,by omega⟩
theorem sg {T T':Str}{c:Cmd}(h:gI T=some (c,T')):sc c∧T'.len+aM (cI c)=T.len:=by
 unfold gI at h
 cases h0:rdN T with
 |none=>rw[h0] at h;cases h
 |some p=>
  obtain⟨a,T1⟩:=p
  rw[h0] at h
  simp only at h
  cases h1:rdN T1 with
  |none=>rw[h1] at h;cases h
  |some p=>
   obtain⟨b,T2⟩:=p
   rw[h1] at h
   simp only at h
   cases h2:rdN T2 with
   |none=>rw[h2] at h;cases h
   |some p=>
    obtain⟨d,T3⟩:=p
    rw[h2] at h
    simp only at h
    cases h3:rdN T3 with
    |none=>rw[h3] at h;cases h
    |some p=>
     obtain⟨e,T4⟩:=p
     rw[h3] at h
     simp only at h
     unfold rdK at h
     cases h4:rdL rdT T4 with
     |none=>rw[h4] at h;cases h
     |some p=>
      obtain⟨ks,T5⟩:=p
      rw[h4] at h
      simp only at h
      unfold rdQ at h
      cases h5:rdL qj T5 with
      |none=>rw[h5] at h;cases h
      |some p=>
       obtain⟨rs,T6⟩:=p
       rw[h5] at h
       simp only at h
       unfold rdU at h
       cases h6:rdL pK T6 with
       |none=>rw[h6] at h;cases h
       |some p=>
        obtain⟨ws,T7⟩:=p
        rw[h6] at h
        simp only at h
        unfold rdV at h
        cases h7:rdN T7 with
        |none=>rw[h7] at h;cases h
        |some p=>
         obtain⟨d1,T8⟩:=p
         rw[h7] at h
         simp only at h
         cases h8:rdN T8 with
         |none=>rw[h8] at h;cases h
         |some p=>
          obtain⟨d2,T9⟩:=p
          rw[h8] at h
          simp only at h
          cases h9:rdN T9 with
          |none=>rw[h9] at h;cases h
          |some p=>
           obtain⟨d3,T10⟩:=p
           rw[h9] at h
           simp only at h
           unfold rdX at h
           cases h10:rdT T10 with
           |none=>rw[h10] at h;cases h
           |some p=>
            obtain⟨tx,T11⟩:=p
            rw[h10] at h
            simp only at h
            unfold rdY at h
            cases h11:rdN T11 with
            |none=>rw[h11] at h;cases h
            |some p=>
             obtain⟨cd,T12⟩:=p
             rw[h11] at h
             simp only at h
             unfold rdZ at h
             cases h12:km T12 with
             |none=>rw[h12] at h;cases h
             |some p=>
              obtain⟨rows,T13⟩:=p
              rw[h12] at h
              simp only at h
              simp only[Option.some.injEq,Prod.mk.injEq] at h
              obtain⟨rfl,rfl⟩:=h
              have a0:=cH h0
              have a1:=cH h1
              have a2:=cH h2
              have a3:=cH h3
              have a4:=Dx (P:=fun k:Str=>k.ok) (g:=cU) (fun T T' a h=>⟨(fp h).2,by rw[bg];exact(fp h).1⟩) h4
              have a5:=Dx (P:=fun r:Str×Str=>r.1.ok∧r.2.ok) (g:=eI) (fun T T' a h=>KL h) h5
              have a6:=Dx (P:=fun w:Str×Str×Bool=>w.1.ok∧w.2.1.ok) (g:=dL) (fun T T' a h=>K4 h) h6
              have a7:=cH h7
              have a8:=cH h8
              have a9:=cH h9
              have a10:=fp h10
              have a11:=cH h11
              have a12:=FT h12
              refine⟨⟨a4.1,a5.1,a6.1,a10.2,a12.1⟩,?_⟩
              have hlk:aM (bJ ⟨a,b,d,e,ks,rs,ws,d1,d2,d3,tx,cd,rows⟩)=40+aM (ks.map cU).flatten:=by rw[bJ,aA,eW];rfl
              have hlr:aM (dg ⟨a,b,d,e,ks,rs,ws,d1,d2,d3,tx,cd,rows⟩)=8+aM (rs.map eI).flatten:=by rw[dg,bL];rfl
              have hlw:aM (eZ ⟨a,b,d,e,ks,rs,ws,d1,d2,d3,tx,cd,rows⟩)=8+aM (ws.map dL).flatten:=by rw[eZ,bL];rfl
              have hle:aM (jq ⟨a,b,d,e,ks,rs,ws,d1,d2,d3,tx,cd,rows⟩)=24+(8+tx.len)+(8+aM (dQ rows)):=by rw[jq,aA,aA,aA,eW,bg];rfl
              show T13.len+aM (cI ⟨a,b,d,e,ks,rs,ws,d1,d2,d3,tx,cd,rows⟩)=_
              rw[cI,aA,aA,aA,hlk,hlr,hlw,hle]
              omega
theorem nv {α:Type}(f:α→List Str)(hf:∀a,1≤aM (f a)):∀l:List α,l.length≤aM (l.map f).flatten
 |[]=>Nat.le_refl _
 |a::l=>by
  have:=nv f hf l
  have:=hf a
  rw[List.map_cons,List.flatten_cons,aA,List.length_cons];omega
theorem vC {c:Cmd}:c.keys.length≤aM (cI c)∧c.ranges.length≤aM (cI c)∧c.writes.length≤aM (cI c):=by
 have h1:=nv cU (fun a=>by rw[bg];omega) c.keys
 have h2:=nv eI (fun a=>by rw[eI,aA,bg];omega) c.ranges
 have h3:=nv dL (fun a=>by rw[dL,aA,aA,bg];omega) c.writes
 have hlk:aM (bJ c)=40+aM (c.keys.map cU).flatten:=by rw[bJ,aA,eW];rfl
 have hlr:aM (dg c)=8+aM (c.ranges.map eI).flatten:=by rw[dg,bL];rfl
 have hlw:aM (eZ c)=8+aM (c.writes.map dL).flatten:=by rw[eZ,bL];rfl
 have h:aM (cI c)=aM (bJ c)+aM (dg c)+aM (eZ c)+aM (jq c):=by rw[cI,aA,aA,aA]
 omega
def noZ:CL:=⟨.slc none 0 0 true, .slc none 0 0 true, .slc none 0 0 true, .slc none 0 0 true⟩
structure Stg (s0:St)(rb b2 b3:Nat)(s:St)(c:Cmd)(z:CL)(T:Str):Prop where
 bx:Bx s b3 (bY c z)
 rd:Bx s rb [.str T]
 res:Bx s b2 (bY noC noZ)
 ok:T.ok
 len:T.len≤100000
 m:Am.Mod (fun c=>c=rb) s0 s
 k:Sli s z.k 1 (c.keys.map kr)
 r:Sli s z.r 2 (c.ranges.map pr)
 w:Sli s z.w 3 (c.writes.map wrt)
 has:∀d,z.has d→s0.nx≤d∧d<s.nx∧d≠b3∧d≠b2
 lo:rb<s0.nx∧s0.nx≤b2∧s0.nx≤b3∧b2≠b3
 xs:z.x= .slc none 0 0 true
theorem Stg.on {s0 s t:St}{rb b2 b3:Nat}{c c':Cmd}{z z':CL}{T T':Str}(h:Stg s0 rb b2 b3 s c z T)(hm:Am.Mod (fun d=>d=rb∨d=b3) s t)(hb:Bx t b3 (bY c' z'))(hr:Bx t rb [.str T'])(hok:T'.ok)(hl:T'.len≤100000)
  (hk:Sli t z'.k 1 (c'.keys.map kr))(hrr:Sli t z'.r 2 (c'.ranges.map pr))(hw:Sli t z'.w 3 (c'.writes.map wrt))(hh:∀d,z'.has d→z.has d∨(s.nx≤d∧d<t.nx))(hx:z'.x= .slc none 0 0 true):Stg s0 rb b2 b3 t c' z' T':=by
 have n1:=h.m.nx
 have n2:=hm.nx
 have hlo:=h.lo
 have l2:=h.res.lt
 have l3:=h.bx.lt
 refine⟨hb,hr,h.res.mod hm (by omega),hok,hl,h.m.trans hm (fun d hd e=>by omega),hk,hrr,hw,fun d hd=>?_,h.lo,hx⟩
 rcases hh d hd with h1|h1
 ·have:=h.has d h1;omega
 ·omega
theorem Stg.sk {s0 s t:St}{rb b2 b3:Nat}{c:Cmd}{z:CL}{T:Str}(h:Stg s0 rb b2 b3 s c z T)(hm:Am.Mod (fun d=>d=rb∨d=b3) s t):Sli t z.k 1 (c.keys.map kr)∧Sli t z.r 2 (c.ranges.map pr)∧Sli t z.w 3 (c.writes.map wrt):=by
 have hlo:=h.lo
 exact⟨h.k.mod hm fun d hd=>by have:=h.has d (.inl hd);omega,h.r.mod hm fun d hd=>by have:=h.has d (.inr (.inl hd));omega,h.w.mod hm fun d hd=>by have:=h.has d (.inr (.inr hd));omega⟩
section
variable {O:bj}
theorem AM:X.fns.get 32=some Try.f32:=by kernel_rfl
theorem J3 {a b c d:Int}:bz X 40 [(0, .int .i64 a),(1, .int .i64 b),(2, .int .i64 c),(3, .int .i64 d)]=some (.pure (.agg (bY {noC with kind:=a,client:=b,seq:=c,snap:=d} noZ))):=by
 simp only[bz,bZ,ly,cS,ay,aF,fV,fY,fW,jt,cL,dc,AV.cells,dB,fB]
 rfl
theorem Ji {a b:Str}:bz X 42 [(0, .str a),(1, .str b)]=some (.pure (.agg [.str a, .str b])):=by
 simp only[bz,qV,sD,cS,aF,cL,dc,AV.cells,dB,fB]
 rfl
theorem EK {s:St}{a b:Str}:bB X 37 1 [(0, .agg [.str a, .str b])] s=some (.val (.slc (some (s.nx,0,2)) 1 1 true) {s with h:=s.h.put s.nx (.cells (Tr.of [.str a, .str b]) 2),nx:=s.nx+1}):=
 jF (cs:=[.str a, .str b]) eP fQ sD rfl (by decide) (by decide) rfl rfl
theorem GR {a:Str}:bz X 34 [(0, .str a)]=some (.pure (.agg [.str a, .str bu, .bool false])):=by
 simp only[bz,m4,mK,cS,aF,eC,cL,dc,AV.cells,dB,fB]
 rfl
theorem Ih {b k x:Nat}{c c':Tr AV}{v1 v2:Str}{v3:Bool}{t0:Tr AB}{g:Tr (Tr AV)}{sh:List Nat}(hs:stL [.str v1, .str v2, .bool v3] 0 c=some c'):cK X 34 (.ptr (some (b,0))) (.agg [.str v1, .str v2, .bool v3]) {h:=t0.put b (.cells c k),nx:=x,gl:=g,sh:=sh}=some (.val (.tup []) {h:=(t0.put b (.cells c k)).put b (.cells c' k),nx:=x,gl:=g,sh:=sh}):=
 dC bT rfl rfl hs
theorem Jk {s:St}{w:Str×Str×Bool}:bB X 35 1 [(0, .agg (wrt w))] s=some (.val (.slc (some (s.nx,0,3)) 1 1 true) {s with h:=s.h.put s.nx (.cells (Tr.of (wrt w)) 3),nx:=s.nx+1}):=
 jF (cs:=wrt w) ct bT mK rfl (by decide) (by decide) rfl rfl
theorem Jg {i:Nat}{o:Oper}{pend:List bn}{L:Sl}{s:St}{k:List bn→Sl→St→Option RX}{v:AV}{x:AB}(h:s.h.get s.nx=none):qv i o pend L s k (some (.val v {s with h:=s.h.put s.nx x,nx:=s.nx+1}))=k (⟨i,o,v,some (s.nx,x)⟩::pend) (bO o.dst v L) {s with h:=s.h.put s.nx x,nx:=s.nx+1}:=NS h bm
def oA (s:St)(rb:Nat)(p:Option (Cmd×Str)):CR→Prop:=fun r=>match p with
 |some (c,T)=>∃z s' Z,r= .ret (.agg (bY c z)) s'∧jI s' c z∧oP s' Z z.x c.rows∧(∀d,z.has d∨Z d→s.nx≤d∧d<s'.nx)∧Am.Mod (fun c=>c=rb) s s'
 |none=>∃s',r= .pan jz s'∧Am.Mod (fun c=>c=rb) s s'
theorem oA.bad {s s':St}{rb:Nat}{p:Option (Cmd×Str)}(h:p=none)(hm:Am.Mod (fun c=>c=rb) s s'):oA s rb p (.pan jz s'):=by
 subst h;exact⟨s',rfl,hm⟩
structure Oy (O:bj):Prop where
 rd:RdO O
 rows:O 48=none
 command:O 32=none
theorem xC (ho:Oy O){s:St}(htd:Tidy s){rb:Nat}{T:Str}(h:Bx s rb [.str T])(hT:T.len≤100000):
  Ca X O (.fn 32) [.ptr (some (rb,0))] s (oA s rb (gI T)):=by
 refine bb ho.command AM rfl ?_
 unfold aD aD
 have hlt:=h.lt
 refine fO ?_;refine ad (by simp(disch:=omega) only[uB,uT,bQ ly rfl,AV.cells];exact rfl) ?_;refine dR ?_;refine cJ ?_
 refine eE fun s1 hn1 hm1 hb1=>?_
 have h1:=h.no hm1
 refine eL (fun L s'=>L=[(0, .ptr (some (rb,0))),(2, .ptr (some (s.nx,0))),(3, .ptr (some (s'.nx- 1,0)))]∧∃c T4 b3,b3+1=s'.nx∧Stg s rb s.nx b3 s' c noZ T4∧c.keys=[]∧c.ranges=[]∧c.writes=[]∧gI T=rdK c T4∧T4.len+32=T.len) ?_ ?_
 ·refine uG ?_
  refine aj (eU ho.rd h1 (by omega)) ?_ ?_
  ·intro v s2 hx
   obtain⟨a,T1,e1,rfl,h2,hm2,hok2⟩:=rd_some (f:=fun n:Int=>AV.int .i64 n) hx
   have r1:=cH e1
   refine uL ?_
   refine aj (eU ho.rd h2 (by omega)) ?_ ?_
   ·intro v s3 hx
    obtain⟨b,T2,e2,rfl,h3,hm3,hok3⟩:=rd_some (f:=fun n:Int=>AV.int .i64 n) hx
    have r2:=cH e2
    refine uL ?_
    refine aj (eU ho.rd h3 (by omega)) ?_ ?_
    ·intro v s4 hx
     obtain⟨d,T3,e3,rfl,h4,hm4,hok4⟩:=rd_some (f:=fun n:Int=>AV.int .i64 n) hx
     have r3:=cH e3
     refine uL ?_
     refine aj (eU ho.rd h4 (by omega)) ?_ ?_
     ·intro v s5 hx
      obtain⟨e,T4,e4,rfl,h5,hm5,hok5⟩:=rd_some (f:=fun n:Int=>AV.int .i64 n) hx
      have r4:=cH e4
      have hcc0:aX (bY {noC with kind:=a,client:=b,seq:=d,snap:=e} noZ)=true:=rfl
      obtain⟨cc,hcc,_⟩:=ej (cs:=bY {noC with kind:=a,client:=b,seq:=d,snap:=e} noZ) (zs:=[.int .i64 0, .int .i64 0, .int .i64 0, .int .i64 0, .slc none 0 0 true, .slc none 0 0 true, .slc none 0 0 true, .int .i64 0, .int .i64 0, .int .i64 0, .str ⟨0,0⟩, .int .i64 0, .slc none 0 0 true]) rfl
      refine bD (by simp(disch:=omega) only[uB,uT,J3,bQ ly rfl,AV.cells,th hcc0 hcc];exact rfl) ?_
      refine uH ?_
      refine Fin.st (fun s':St=>Am.Mod No s5 s'∧s'.nx=s5.nx+1∧Bx s' s5.nx (bY {noC with kind:=a,client:=b,seq:=d,snap:=e} noZ)) (A4 hcc) ?_
      rintro s6 ⟨hm6,hn6,g6⟩
      have hm16:=(((hm2.trans hm3 (fun _ _ e=>e)).trans hm4 (fun _ _ e=>e)).trans hm5 (fun _ _ e=>e)).trans hm6 (fun _ _ e=>e.elim)
      have n5:s1.nx≤s5.nx:=Nat.le_trans (Nat.le_trans hm2.nx hm3.nx) (Nat.le_trans hm4.nx hm5.nx)
      refine dD [(0, .ptr (some (rb,0))),(2, .ptr (some (s.nx,0))),(3, .ptr (some (s6.nx- 1,0)))] ⟨rfl,_,T4,s5.nx,hn6.symm,⟨g6,h5.no hm6,hb1.mod hm16 (by omega),hok5,by omega,(hm1.mono (C:=fun c=>c=rb) (fun _ _ e=>e.elim)).trans hm16 (fun _ _ e=>e),Acc.nil.sli,Acc.nil.sli,Acc.nil.sli,fun d hd=>?_,⟨hlt,Nat.le_refl _,by omega,by omega⟩,rfl⟩,rfl,rfl,rfl,?_,by omega⟩ (by rw[hn6];simp[aI,az])
      ·rcases hd with hd|hd|hd<;>cases hd
      ·unfold gI;rw[e1];simp only;rw[e2];simp only;rw[e3];simp only;rw[e4]
     ·intro v s5 hx
      obtain⟨e4,rfl,hm5⟩:=cY (f:=fun n:Int=>AV.int .i64 n) hx
      refine uH ?_
      refine bX ?_
      exact oA.bad (by unfold gI;rw[e1];simp only;rw[e2];simp only;rw[e3];simp only;rw[e4]) ((((hm1.mono (C:=fun c=>c=rb) (fun _ _ e=>e.elim)).trans hm2 (fun _ _ e=>e)).trans hm3 (fun _ _ e=>e)).trans (hm4.trans hm5 (fun _ _ e=>e)) (fun _ _ e=>e))
    ·intro v s4 hx
     obtain⟨e3,rfl,hm4⟩:=cY (f:=fun n:Int=>AV.int .i64 n) hx
     refine uH ?_
     refine bX ?_
     exact oA.bad (by unfold gI;rw[e1];simp only;rw[e2];simp only;rw[e3]) ((((hm1.mono (C:=fun c=>c=rb) (fun _ _ e=>e.elim)).trans hm2 (fun _ _ e=>e)).trans hm3 (fun _ _ e=>e)).trans hm4 (fun _ _ e=>e))
   ·intro v s3 hx
    obtain⟨e2,rfl,hm3⟩:=cY (f:=fun n:Int=>AV.int .i64 n) hx
    refine uH ?_
    refine bX ?_
    exact oA.bad (by unfold gI;rw[e1];simp only;rw[e2]) (((hm1.mono (C:=fun c=>c=rb) (fun _ _ e=>e.elim)).trans hm2 (fun _ _ e=>e)).trans hm3 (fun _ _ e=>e))
  ·intro v s2 hx
   obtain⟨e1,rfl,hm2⟩:=cY (f:=fun n:Int=>AV.int .i64 n) hx
   refine uH ?_
   refine bX ?_
   exact oA.bad (by unfold gI;rw[e1]) ((hm1.mono (C:=fun c=>c=rb) (fun _ _ e=>e.elim)).trans hm2 (fun _ _ e=>e))
 ·rintro L s2 ⟨rfl,c,T4,b3,hb3,hst,hck,hcr,hcw,hrd,hT4⟩
  have hbad:∀ {s'},rdK c T4=none→Am.Mod (fun c=>c=rb) s s'→oA s rb (gI T) (.pan jz s'):=fun h hm=>oA.bad (hrd.trans h) hm
  obtain⟨lo1,lo2,lo3,lo4⟩:=hst.lo
  have e3:s2.nx- 1=b3:=by omega
  rw[e3]
  refine eL (fun L s'=>L=[(0, .ptr (some (rb,0))),(2, .ptr (some (s.nx,0))),(3, .ptr (some (b3,0)))]∧∃c z T5,Stg s rb s.nx b3 s' c z T5∧z.r= .slc none 0 0 true∧z.w= .slc none 0 0 true∧c.ranges=[]∧c.writes=[]∧gI T=rdQ c T5) ?_ ?_
  ·refine uG ?_
   refine aj (iJ ho.rd hst.rd (by have:=hst.len;omega)) ?_ ?_
   ·intro v s3 hx
    obtain⟨n,T5,hn,rfl,h3,hm3,hok3⟩:=rd_some (f:=fun n:Nat=>AV.int .i64 (n:Int)) hx
    have hle:=nd hn
    have hlen:=hst.len
    have hL:rdL rdT T4=rdM rdT n T5:=by unfold rdL;rw[hn]
    refine uL ?_
    refine uH ?_
    let J:Nat×AV×List Str→Sl→St→Prop:=fun w L s'=>(∃Tj,rdM rdT n T5=ni w.2.2 (rdM rdT w.1 Tj)∧Bx s' rb [.str Tj]∧Tj.len≤100000∧Tj.ok)∧Am.Mod (fun d=>d=rb∨d=b3) s2 s'∧w.1+w.2.2.length=n∧
     (Am.Acc s' w.2.1 1 (w.2.2.map kr)∧∀d,blk w.2.1=some d→s2.nx≤d)∧Bx s' b3 (bY c {noZ with k:=w.2.1})∧
     L=[(0, .ptr (some (rb,0))),(2, .ptr (some (s.nx,0))),(3, .ptr (some (b3,0))),(4, .int .i64 (w.1:Int))]
    refine WL.less (M:=[(0, .ptr (some (rb,0))),(2, .ptr (some (s.nx,0))),(3, .ptr (some (b3,0))),(4, .int .i64 (n:Int))]) ?_ rfl
    refine aV J (fun w=>w.1) ?_ n (n, .slc none 0 0 true,[]) _ s3 (Nat.le_refl _) ⟨⟨T5,(jS _).symm,h3,by omega,hok3⟩,hm3.mono (fun _ _ e=> .inl e),rfl,⟨Acc.nil,fun c hc=>(by cases hc)⟩,hst.bx.mod hm3 (by omega),rfl⟩
    rintro⟨j,l,av⟩ L s4 ⟨⟨Tj,hpj,h4,hTj,hokj⟩,hm4,hjn,⟨hla,hlb⟩,hb4,rfl⟩
    simp only at hpj hjn hla hlb hb4 ⊢
    obtain⟨al,cl,xl,rfl,_⟩:=hla.sli.ex
    simp only[List.length_map] at hla hlb hb4 ⊢
    have n24:=hm4.nx
    have hm04:Am.Mod (fun c=>c=rb) s s4:=hst.m.trans hm4 (fun d hd e=>by omega)
    have htd4:=hm04.tidy htd
    refine uG ?_
    refine uJ [0,2,3,4,21] ?_
    refine ae rfl rfl (fun hc3=>?_) (fun hc3=>?_)
    ·obtain⟨j',rfl⟩:∃j',j=j'+1:=⟨j- 1,by simp at hc3;omega⟩
     have badj:rdT Tj=none→rdK c T4=none:=fun hb=>by unfold rdK;rw[hL,hpj,lJ hb]
     have lk4:aO X 36 (.ptr (some (b3,4))) s4=some (.old (.slc al av.length cl xl)):=hb4.ld (i:=4) rfl dS rfl fV
     refine uH ?_
     refine aU [(0,none),(1,none),(2,none),(3,some [false,true,true]),(4,none),(5,some [false,false,true]),(6,none),(7,some [false,false])] (by kernel_rfl) (by kernel_rfl) (by simp(disch:=omega) only[uB,uT,Nat.reduceEqDiff,↓reduceIte,uD,mask,aC,aB,lh,Nat.zero_add,lk4];exact rfl) ?_
     refine cg (iw ho.rd h4 (by omega)) ?_ ?_
     ·intro v s5 hx
      obtain⟨w,T6,e6,rfl,h5,hm5,hok5⟩:=rd_some (f:=fun n:Str=>AV.str n) hx
      have r6:=fp e6
      have b5:=hb4.mod hm5 (by omega)
      have lk5:aO X 36 (.ptr (some (b3,4))) s5=some (.old (.slc al av.length cl xl)):=b5.ld (i:=4) rfl dS rfl fV
      let s6:St:={s5 with h:=s5.h.put s5.nx (.cells (Tr.of [.str w]) 1),nx:=s5.nx+1}
      have hm56:Am.Mod No s5 s6:=(Mod.refl _ s5).new _
      have htd5:=hm5.tidy htd4
      have hsrc:aZ s6 1 (.slc (some (s5.nx,0,1)) 1 1 true)=some ([kr w].length,[kr w].flatten):=gB (rows:=[kr w]) rfl (fun r hr=>by rcases List.mem_singleton.mp hr with rfl;rfl) bm rfl
      have hlen6:(av.map kr).length+[kr w].length≤1000000:=by simp;omega
      obtain⟨l7,s7,ap7,acc7,hm7,hb7⟩:=gG dS HQ ((hla.mod hm5 fun d hd=>by have:=hlb d hd;omega).mod hm56 (fun _ _ h=>h)) hsrc (fun r hr=>by rcases List.mem_singleton.mp hr with rfl;rfl) (by simp) rfl hlen6
      rw[show av.map kr++[kr w]=(av++[w]).map kr by simp] at acc7
      obtain⟨a7,c7,x7,el7,_⟩:=acc7.sli.ex
      have hm7b:∀d,blk (.slc al av.length cl xl)=some d→d≠rb∧d≠b3:=fun d hd=>by have:=hlb d hd;omega
      have b7:Bx s7 b3 _:=(b5.no hm56).mod hm7 (fun e=>(hm7b _ e).2 rfl)
      have r7:Bx s7 rb [.str T6]:=(h5.no hm56).mod hm7 (fun e=>(hm7b _ e).1 rfl)
      obtain⟨s8,st8,b8,hm8,n8⟩:=b7.stm (X:=X) (t:=36) (i:=4) (w:=l7) rfl fV (by rw[el7];rfl) (by rw[el7];rfl)
      have b8:Bx s8 b3 (bY c {noZ with k:=l7}):=b8
      have n45:=hm5.nx
      have n6:s6.nx=s5.nx+1:=rfl
      have n7:=hm7.nx
      have hb7':∀d,blk l7=some d→d=s5.nx+1:=fun d hd=>by rw[hb7] at hd;simp only[Option.some.injEq] at hd;omega
      have hm28:Am.Mod (fun d=>d=rb∨d=b3) s2 s8:=by
       have a1:=hm4.trans hm5 (fun _ _ e=> .inl e)
       have a2:=(a1.trans hm56 (fun _ _ e=>e.elim)).trans hm7 (fun d hd e=>by have:=hlb d e;omega)
       exact a2.trans hm8 (fun d _ e=> .inr e)
      have acc8:=acc7.mod hm8 (fun d hd e=>by have:=hb7' d hd;omega)
      have r8:=r7.mod hm8 (by omega)
      simp only[s6,kr] at ap7
      rw[el7] at ap7 st8
      refine⟨_,(by simp(disch:=omega) only[uB,uT,Nat.reduceEqDiff,↓reduceIte,uE,aC,aB,lh,Nat.zero_add,lk5,fF,Jg (htd5 _ (Nat.le_refl _)),fM dS (.inl rfl),ap7,st8];exact rfl),?_⟩
      refine uG ?_
      exact aH (j',l7,av++[w]) [(0, .ptr (some (rb,0))),(2, .ptr (some (s.nx,0))),(3, .ptr (some (b3,0))),(4, .int .i64 (j':Int))] ⟨⟨T6,by simp only;rw[hpj,nw e6],r8,by omega,hok5⟩,hm28,by simp only[List.length_append,List.length_cons,List.length_nil];omega,⟨acc8,fun d hd=>by have:=hb7' d hd;omega⟩,b8,rfl⟩ (Nat.lt_succ_self _) (by simp[aI,az])
     ·intro v s5 hx
      obtain⟨e6,rfl,hm5⟩:=cY (f:=fun n:Str=>AV.str n) hx
      refine uH ?_
      refine bX ?_
      exact hbad (badj e6) (hm04.trans hm5 (fun _ _ e=>e))
    ·have:j=0:=by simp at hc3;omega
     subst this
     refine uG ?_
     have hrk:rdK c T4=rdQ {c with keys:=av} Tj:=by
      unfold rdK;rw[hL,hpj]
      show(match ni av (some ([],Tj)) with|some (l,T')=>rdQ {c with keys:=l} T'|none=>none)=_
      simp only[ni,List.append_nil]
     obtain⟨_,g2,g3⟩:=hst.sk hm4
     refine dD [(0, .ptr (some (rb,0))),(2, .ptr (some (s.nx,0))),(3, .ptr (some (b3,0)))] ⟨rfl,{c with keys:=av},{noZ with k:= .slc al av.length cl xl},Tj,hst.on hm4 hb4 h4 hokj hTj hla.sli g2 g3 (fun d hd=>?_) rfl,rfl,rfl,hcr,hcw,hrd.trans hrk⟩ (by simp[aI,az])
     rcases hd with hd|hd|hd
     ·exact .inr ⟨hlb d hd,hla.lt hd⟩
     ·exact .inl (.inr (.inl hd))
     ·exact .inl (.inr (.inr hd))
   ·intro v s3 hx
    obtain⟨hn,rfl,hm3⟩:=cY (f:=fun n:Nat=>AV.int .i64 (n:Int)) hx
    refine uH ?_
    refine bX ?_
    exact hbad (by unfold rdK rdL;rw[hn]) (hst.m.trans hm3 (fun _ _ e=>e))
  ·rintro L s2 ⟨rfl,c,z,T4,hst,hzr,hzw,hcr,hcw,hrd⟩
   clear hbad hck hT4
   have hbad:∀ {s'},rdQ c T4=none→Am.Mod (fun c=>c=rb) s s'→oA s rb (gI T) (.pan jz s'):=fun h hm=>oA.bad (hrd.trans h) hm
   refine eL (fun L s'=>L=[(0, .ptr (some (rb,0))),(2, .ptr (some (s.nx,0))),(3, .ptr (some (b3,0)))]∧∃c z T5,Stg s rb s.nx b3 s' c z T5∧z.w= .slc none 0 0 true∧c.writes=[]∧gI T=rdU c T5) ?_ ?_
   ·refine uG ?_
    refine aj (iJ ho.rd hst.rd (by have:=hst.len;omega)) ?_ ?_
    ·intro v s3 hx
     obtain⟨n,T5,hn,rfl,h3,hm3,hok3⟩:=rd_some (f:=fun n:Nat=>AV.int .i64 (n:Int)) hx
     have hle:=nd hn
     have hlen:=hst.len
     have hL:rdL qj T4=rdM qj n T5:=by unfold rdL;rw[hn]
     refine uL ?_
     refine uH ?_
     let J:Nat×AV×List (Str×Str)→Sl→St→Prop:=fun w L s'=>(∃Tj,rdM qj n T5=ni w.2.2 (rdM qj w.1 Tj)∧Bx s' rb [.str Tj]∧Tj.len≤100000∧Tj.ok)∧Am.Mod (fun d=>d=rb∨d=b3) s2 s'∧w.1+w.2.2.length=n∧
      (Am.Acc s' w.2.1 2 (w.2.2.map pr)∧∀d,blk w.2.1=some d→s2.nx≤d)∧Bx s' b3 (bY c {z with r:=w.2.1})∧
      L=[(0, .ptr (some (rb,0))),(2, .ptr (some (s.nx,0))),(3, .ptr (some (b3,0))),(5, .int .i64 (w.1:Int))]
     refine WL.less (M:=[(0, .ptr (some (rb,0))),(2, .ptr (some (s.nx,0))),(3, .ptr (some (b3,0))),(5, .int .i64 (n:Int))]) ?_ rfl
     refine aV J (fun w=>w.1) ?_ n (n, .slc none 0 0 true,[]) _ s3 (Nat.le_refl _) ⟨⟨T5,(jS _).symm,h3,by omega,hok3⟩,hm3.mono (fun _ _ e=> .inl e),rfl,⟨Acc.nil,fun c hc=>(by cases hc)⟩,by simp only;rw[←hzr];exact hst.bx.mod hm3 (by omega),rfl⟩
     rintro⟨j,l,av⟩ L s4 ⟨⟨Tj,hpj,h4,hTj,hokj⟩,hm4,hjn,⟨hla,hlb⟩,hb4,rfl⟩
     simp only at hpj hjn hla hlb hb4 ⊢
     obtain⟨al,cl,xl,rfl,_⟩:=hla.sli.ex
     simp only[List.length_map] at hla hlb hb4 ⊢
     have n24:=hm4.nx
     have n02:=hst.m.nx
     have hb3lt:=hst.bx.lt
     have hm04:Am.Mod (fun c=>c=rb) s s4:=hst.m.trans hm4 (fun d hd e=>by omega)
     have htd4:=hm04.tidy htd
     refine uG ?_
     refine uJ [0,2,3,5,34] ?_
     refine ae rfl rfl (fun hc3=>?_) (fun hc3=>?_)
     ·obtain⟨j',rfl⟩:∃j',j=j'+1:=⟨j- 1,by simp at hc3;omega⟩
      have badj:qj Tj=none→rdQ c T4=none:=fun hb=>by unfold rdQ;rw[hL,hpj,lJ hb]
      refine uG ?_
      refine aj (iw ho.rd h4 (by omega)) ?_ ?_
      ·intro v s5 hx
       obtain⟨w1,T6,e6,rfl,h5,hm5,hok5⟩:=rd_some (f:=fun n:Str=>AV.str n) hx
       have r6:=fp e6
       have b5:=hb4.mod hm5 (by omega)
       have lk5:aO X 37 (.ptr (some (b3,5))) s5=some (.old (.slc al av.length cl xl)):=b5.ld (i:=5) rfl eP rfl fY
       have htd5:=hm5.tidy htd4
       refine uL ?_
       refine uH ?_
       refine aU [(0,none),(1,none),(2,none),(3,none),(4,some [false,true,true,true]),(5,none),(6,none),(7,some [false,true,true,false,true]),(8,none),(9,some [false,false,false,false])] (by kernel_rfl) (by kernel_rfl) (by simp(disch:=omega) only[uB,uT,Nat.reduceEqDiff,↓reduceIte,uD,mask,aC,aB,jY,Nat.zero_add,lk5];exact rfl) ?_
       refine cg (iw ho.rd h5 (by omega)) ?_ ?_
       ·intro v s5b hx
        obtain⟨w2,T7,e7,rfl,h5b,hm5b,hok5b⟩:=rd_some (f:=fun n:Str=>AV.str n) hx
        have r7l:=fp e7
        have hrg:qj Tj=some ((w1,w2),T7):=by unfold qj;rw[e6];simp only;rw[e7]
        have b5b:=b5.mod hm5b (by omega)
        have lk5b:aO X 37 (.ptr (some (b3,5))) s5b=some (.old (.slc al av.length cl xl)):=b5b.ld (i:=5) rfl eP rfl fY
        let s6:St:={s5b with h:=s5b.h.put s5b.nx (.cells (Tr.of [.str w1, .str w2]) 2),nx:=s5b.nx+1}
        have hm56:Am.Mod No s5b s6:=(Mod.refl _ s5b).new _
        have htd5b:=hm5b.tidy htd5
        have hsrc:aZ s6 2 (.slc (some (s5b.nx,0,2)) 1 1 true)=some ([pr (w1,w2)].length,[pr (w1,w2)].flatten):=gB (rows:=[pr (w1,w2)]) rfl (fun r hr=>by rcases List.mem_singleton.mp hr with rfl;rfl) bm rfl
        have hlen6:(av.map pr).length+[pr (w1,w2)].length≤1000000:=by simp;omega
        have hlr:∀d,blk (.slc al av.length cl xl)=some d→d≠rb:=fun d hd=>by have:=hlb d hd;omega
        obtain⟨l7,s7,ap7,acc7,hm7,hb7⟩:=gG eP DD (((hla.mod hm5 hlr).mod hm5b hlr).mod hm56 (fun _ _ h=>h)) hsrc (fun r hr=>by rcases List.mem_singleton.mp hr with rfl;rfl) (by simp) rfl hlen6
        rw[show av.map pr++[pr (w1,w2)]=(av++[(w1,w2)]).map pr by simp] at acc7
        obtain⟨a7,c7,x7,el7,_⟩:=acc7.sli.ex
        have hm7b:∀d,blk (.slc al av.length cl xl)=some d→d≠rb∧d≠b3:=fun d hd=>by have:=hlb d hd;have:=hst.bx.lt;omega
        have b7:Bx s7 b3 _:=(b5b.no hm56).mod hm7 (fun e=>(hm7b _ e).2 rfl)
        have r7:Bx s7 rb [.str T7]:=(h5b.no hm56).mod hm7 (fun e=>(hm7b _ e).1 rfl)
        obtain⟨s8,st8,b8,hm8,n8⟩:=b7.stm (X:=X) (t:=37) (i:=5) (w:=l7) rfl fY (by rw[el7];rfl) (by rw[el7];rfl)
        have b8:Bx s8 b3 (bY c {z with r:=l7}):=b8
        have n45:=hm5.nx
        have n5b:=hm5b.nx
        have n6:s6.nx=s5b.nx+1:=rfl
        have n7:=hm7.nx
        have hb7':∀d,blk l7=some d→d=s5b.nx+1:=fun d hd=>by rw[hb7] at hd;simp only[Option.some.injEq] at hd;omega
        have hm28:Am.Mod (fun d=>d=rb∨d=b3) s2 s8:=by
         have a1:=(hm4.trans hm5 (fun _ _ e=> .inl e)).trans hm5b (fun _ _ e=> .inl e)
         have a2:=(a1.trans hm56 (fun _ _ e=>e.elim)).trans hm7 (fun d hd e=>by have:=hlb d e;omega)
         exact a2.trans hm8 (fun d _ e=> .inr e)
        have hb3lt:=hst.bx.lt
        have acc8:=acc7.mod hm8 (fun d hd e=>by have:=hb7' d hd;omega)
        have r8:=r7.mod hm8 (by omega)
        simp only[s6,pr] at ap7
        rw[el7] at ap7 st8
        refine⟨_,(by simp(disch:=omega) only[uB,uT,Nat.reduceEqDiff,↓reduceIte,uE,aC,aB,jY,Nat.zero_add,lk5b,Ji,EK,Jg (htd5b _ (Nat.le_refl _)),fM eP (.inl rfl),ap7,st8];exact rfl),?_⟩
        refine uG ?_
        exact aH (j',l7,av++[(w1,w2)]) [(0, .ptr (some (rb,0))),(2, .ptr (some (s.nx,0))),(3, .ptr (some (b3,0))),(5, .int .i64 (j':Int))] ⟨⟨T7,by simp only;rw[hpj,nw hrg],r8,by omega,hok5b⟩,hm28,by simp only[List.length_append,List.length_cons,List.length_nil];omega,⟨acc8,fun d hd=>by have:=hb7' d hd;omega⟩,b8,rfl⟩ (Nat.lt_succ_self _) (by simp[aI,az])
       ·intro v s5b hx
        obtain⟨e7,rfl,hm5b⟩:=cY (f:=fun n:Str=>AV.str n) hx
        refine uH ?_
        refine bX ?_
        exact hbad (badj (by unfold qj;rw[e6];simp only;rw[e7])) ((hm04.trans hm5 (fun _ _ e=>e)).trans hm5b (fun _ _ e=>e))
      ·intro v s5 hx
       obtain⟨e6,rfl,hm5⟩:=cY (f:=fun n:Str=>AV.str n) hx
       refine uH ?_
       refine bX ?_
       exact hbad (badj (by unfold qj;rw[e6])) (hm04.trans hm5 (fun _ _ e=>e))
     ·have:j=0:=by simp at hc3;omega
      subst this
      refine uG ?_
      have hrk:rdQ c T4=rdU {c with ranges:=av} Tj:=by
       unfold rdQ;rw[hL,hpj]
       show(match ni av (some ([],Tj)) with|some (l,T')=>rdU {c with ranges:=l} T'|none=>none)=_
       simp only[ni,List.append_nil]
      obtain⟨g1,_,g3⟩:=hst.sk hm4
      refine dD [(0, .ptr (some (rb,0))),(2, .ptr (some (s.nx,0))),(3, .ptr (some (b3,0)))] ⟨rfl,{c with ranges:=av},{z with r:= .slc al av.length cl xl},Tj,hst.on hm4 hb4 h4 hokj hTj g1 hla.sli g3 (fun d hd=>?_) hst.xs,hzw,hcw,hrd.trans hrk⟩ (by simp[aI,az])
      rcases hd with hd|hd|hd
      ·exact .inl (.inl hd)
      ·exact .inr ⟨hlb d hd,hla.lt hd⟩
      ·exact .inl (.inr (.inr hd))
    ·intro v s3 hx
     obtain⟨hn,rfl,hm3⟩:=cY (f:=fun n:Nat=>AV.int .i64 (n:Int)) hx
     refine uH ?_
     refine bX ?_
     exact hbad (by unfold rdQ rdL;rw[hn]) (hst.m.trans hm3 (fun _ _ e=>e))
   ·rintro L s2 ⟨rfl,c,z,T4,hst,hzw,hcw,hrd⟩
    clear hbad
    have hbad:∀ {s'},rdU c T4=none→Am.Mod (fun c=>c=rb) s s'→oA s rb (gI T) (.pan jz s'):=fun h hm=>oA.bad (hrd.trans h) hm
    refine eL (fun L s'=>L=[(0, .ptr (some (rb,0))),(2, .ptr (some (s.nx,0))),(3, .ptr (some (b3,0)))]∧∃c z T5,Stg s rb s.nx b3 s' c z T5∧gI T=rdV c T5) ?_ ?_
    ·refine uG ?_
     refine aj (iJ ho.rd hst.rd (by have:=hst.len;omega)) ?_ ?_
     ·intro v s3 hx
      obtain⟨n,T5,hn,rfl,h3,hm3,hok3⟩:=rd_some (f:=fun n:Nat=>AV.int .i64 (n:Int)) hx
      have hle:=nd hn
      have hlen:=hst.len
      have hL:rdL pK T4=rdM pK n T5:=by unfold rdL;rw[hn]
      refine uL ?_
      refine uH ?_
      let J:Nat×AV×List (Str×Str×Bool)→Sl→St→Prop:=fun w L s'=>(∃Tj,rdM pK n T5=ni w.2.2 (rdM pK w.1 Tj)∧Bx s' rb [.str Tj]∧Tj.len≤100000∧Tj.ok)∧Am.Mod (fun d=>d=rb∨d=b3) s2 s'∧w.1+w.2.2.length=n∧
       (Am.Acc s' w.2.1 3 (w.2.2.map wrt)∧∀d,blk w.2.1=some d→s2.nx≤d)∧Bx s' b3 (bY c {z with w:=w.2.1})∧
       L=[(0, .ptr (some (rb,0))),(2, .ptr (some (s.nx,0))),(3, .ptr (some (b3,0))),(7, .int .i64 (w.1:Int))]
      refine WL.less (M:=[(0, .ptr (some (rb,0))),(2, .ptr (some (s.nx,0))),(3, .ptr (some (b3,0))),(7, .int .i64 (n:Int))]) ?_ rfl
      refine aV J (fun w=>w.1) ?_ n (n, .slc none 0 0 true,[]) _ s3 (Nat.le_refl _) ⟨⟨T5,(jS _).symm,h3,by omega,hok3⟩,hm3.mono (fun _ _ e=> .inl e),rfl,⟨Acc.nil,fun c hc=>(by cases hc)⟩,by simp only;rw[←hzw];exact hst.bx.mod hm3 (by omega),rfl⟩
      rintro⟨j,l,av⟩ L s4 ⟨⟨Tj,hpj,h4,hTj,hokj⟩,hm4,hjn,⟨hla,hlb⟩,hb4,rfl⟩
      simp only at hpj hjn hla hlb hb4 ⊢
      obtain⟨al,cl,xl,rfl,_⟩:=hla.sli.ex
      simp only[List.length_map] at hla hlb hb4 ⊢
      have n24:=hm4.nx
      have n02:=hst.m.nx
      have hb3lt:=hst.bx.lt
      have hm04:Am.Mod (fun c=>c=rb) s s4:=hst.m.trans hm4 (fun d hd e=>by omega)
      refine uG ?_
      refine uJ [0,2,3,7,51] ?_
      refine ae rfl rfl (fun hc3=>?_) (fun hc3=>?_)
      ·obtain⟨j',rfl⟩:∃j',j=j'+1:=⟨j- 1,by simp at hc3;omega⟩
       have badj:pK Tj=none→rdU c T4=none:=fun hb=>by unfold rdU;rw[hL,hpj,lJ hb]
       refine uG ?_
       refine aj (iw ho.rd h4 (by omega)) ?_ ?_
       ·intro v s5 hx
        obtain⟨w1,T6,e6,rfl,h5,hm5,hok5⟩:=rd_some (f:=fun n:Str=>AV.str n) hx
        have r6:=fp e6
        obtain⟨cc,hcc,_⟩:=ej (cs:=[.str w1, .str bu, .bool false]) (zs:=[.str ⟨0,0⟩, .str ⟨0,0⟩, .bool false]) rfl
        have n5:=hm5.nx
        refine bD (by simp(disch:=omega) only[uB,uT,GR,bQ mK rfl,AV.cells,Ih hcc];exact rfl) ?_
        refine uH ?_
        refine dy hcc fun s6 hn6 hm6 g6=>?_
        have h6:=h5.no hm6
        refine uG ?_
        refine aj (iw ho.rd h6 (by omega)) ?_ ?_
        ·intro v s7 hx
         obtain⟨w2,T7,e7,rfl,h7,hm7,hok7⟩:=rd_some (f:=fun n:Str=>AV.str n) hx
         have r7:=fp e7
         have g7:=g6.mod hm7 (by omega)
         obtain⟨s8,st8,g8,hm8,n8⟩:=g7.stm (X:=X) (t:=9) (i:=1) (w:= .str w2) rfl aF rfl rfl
         have h8:=h7.mod hm8 (by omega)
         refine bD (by simp(disch:=omega) only[uB,uT,kj,Nat.zero_add,st8];exact rfl) ?_
         refine uG ?_
         refine aj (eU ho.rd h8 (by omega)) ?_ ?_
         ·intro v s9 hx
          obtain⟨d9,T9,e9,rfl,h9,hm9,hok9⟩:=rd_some (f:=fun n:Int=>AV.int .i64 n) hx
          have r9:=cH e9
          have g9:=g8.mod hm9 (by omega)
          obtain⟨s10,Gg,g10,hm10,n10⟩:=g9.stm (X:=X) (t:=4) (i:=2) (w:= .bool (decide (d9=1))) rfl eC rfl rfl
          have h10:=h9.mod hm10 (by omega)
          have hwv:pK Tj=some ((w1,w2,decide (d9=1)),T9):=by unfold pK;rw[e6];simp only;rw[e7];simp only;rw[e9]
          obtain⟨q,hq⟩:∃q:Str×Str×Bool,q=(w1,w2,decide (d9=1)):=⟨_,rfl⟩
          have g10:Bx s10 s5.nx (wrt q):=by rw[hq];exact g10
          rw[←hq] at hwv
          have hm410:Am.Mod (fun c=>c=rb) s4 s10:=by
           have a1:=hm5.trans hm6 (fun _ _ e=>e.elim)
           have a2:=a1.trans hm7 (fun _ _ e=>e)
           have a3:=a2.trans hm8 (fun c hc e=>by omega)
           have a4:=a3.trans hm9 (fun _ _ e=>e)
           exact a4.trans hm10 (fun c hc e=>by omega)
          have hlr:∀d,blk (.slc al av.length cl xl)=some d→d≠rb:=fun d hd=>by have:=hlb d hd;omega
          have b10:=hb4.mod hm410 (by omega)
          have lk10:aO X 35 (.ptr (some (b3,6))) s10=some (.old (.slc al av.length cl xl)):=b10.ld (i:=6) rfl ct rfl fW
          let s11:St:={s10 with h:=s10.h.put s10.nx (.cells (Tr.of (wrt q)) 3),nx:=s10.nx+1}
          have hm11:Am.Mod No s10 s11:=(Mod.refl _ s10).new _
          have hsrc:aZ s11 3 (.slc (some (s10.nx,0,3)) 1 1 true)=some ([wrt q].length,[wrt q].flatten):=gB (rows:=[wrt q]) rfl (fun r hr=>by rcases List.mem_singleton.mp hr with rfl;rfl) bm rfl
          have hlen6:(av.map wrt).length+[wrt q].length≤1000000:=by simp;omega
          obtain⟨l12,s12,ap12,acc12,hm12,hb12⟩:=gG ct D9 ((hla.mod hm410 hlr).mod hm11 (fun _ _ h=>h)) hsrc (fun r hr=>by rcases List.mem_singleton.mp hr with rfl;rfl) (by simp) rfl hlen6
          rw[show av.map wrt++[wrt q]=(av++[q]).map wrt by simp] at acc12
          obtain⟨a12,c12,x12,el12,_⟩:=acc12.sli.ex
          have hm12b:∀d,blk (.slc al av.length cl xl)=some d→d≠rb∧d≠b3:=fun d hd=>by have:=hlb d hd;omega
          have b12:Bx s12 b3 _:=(b10.no hm11).mod hm12 (fun e=>(hm12b _ e).2 rfl)
          have r12:Bx s12 rb [.str T9]:=(h10.no hm11).mod hm12 (fun e=>(hm12b _ e).1 rfl)
          obtain⟨s13,Nt,b13,hm13,n13⟩:=b12.stm (X:=X) (t:=35) (i:=6) (w:=l12) rfl fW (by rw[el12];rfl) (by rw[el12];rfl)
          have b13:Bx s13 b3 (bY c {z with w:=l12}):=b13
          have n410:=hm410.nx
          have n11:s11.nx=s10.nx+1:=rfl
          have n12:=hm12.nx
          have hb12':∀d,blk l12=some d→d=s10.nx+1:=fun d hd=>by rw[hb12] at hd;simp only[Option.some.injEq] at hd;omega
          have hm2f:Am.Mod (fun d=>d=rb∨d=b3) s2 s13:=by
           have a1:=hm4.trans hm410 (fun _ _ e=> .inl e)
           have a2:=(a1.trans hm11 (fun _ _ e=>e.elim)).trans hm12 (fun d hd e=>by have:=hlb d e;omega)
           exact a2.trans hm13 (fun d _ e=> .inr e)
          have acc13:=acc12.mod hm13 (fun d hd e=>by have:=hb12' d hd;omega)
          have r13:=r12.mod hm13 (by omega)
          have all10:=g10.all (X:=X) m4 rfl bT
          simp only[s11] at ap12
          rw[el12] at ap12 Nt
          refine bD (by simp(disch:=omega) only[uB,uT,j7,Nat.zero_add,Gg];exact rfl) ?_
          repeat(first|refine uS ?_ |refine aa rfl ?_ |refine ad (by simp(disch:=omega) only[uB,uT,gS,Nat.zero_add,lk10,all10,Jk,fM ct (.inl rfl),ap12,Nt];exact rfl) ?_)
          exact aH (j',l12,av++[q]) [(0, .ptr (some (rb,0))),(2, .ptr (some (s.nx,0))),(3, .ptr (some (b3,0))),(7, .int .i64 (j':Int))] ⟨⟨T9,by simp only;rw[hpj,nw hwv],r13,by omega,hok9⟩,hm2f,by simp only[List.length_append,List.length_cons,List.length_nil];omega,⟨acc13,fun d hd=>by have:=hb12' d hd;omega⟩,b13,rfl⟩ (Nat.lt_succ_self _) (by simp[aI,az])
         ·intro v s9 hx
          obtain⟨e9,rfl,hm9⟩:=cY (f:=fun n:Int=>AV.int .i64 n) hx
          refine uH ?_
          refine bX ?_
          refine hbad (badj (by unfold pK;rw[e6];simp only;rw[e7];simp only;rw[e9])) ?_
          have a1:=hm5.trans hm6 (fun _ _ e=>e.elim)
          have a2:=a1.trans hm7 (fun _ _ e=>e)
          have a3:=a2.trans hm8 (fun c hc e=>by omega)
          exact hm04.trans (a3.trans hm9 (fun _ _ e=>e)) (fun _ _ e=>e)
        ·intro v s7 hx
         obtain⟨e7,rfl,hm7⟩:=cY (f:=fun n:Str=>AV.str n) hx
         refine uH ?_
         refine bX ?_
         exact hbad (badj (by unfold pK;rw[e6];simp only;rw[e7])) (hm04.trans ((hm5.trans hm6 (fun _ _ e=>e.elim)).trans hm7 (fun _ _ e=>e)) (fun _ _ e=>e))
       ·intro v s5 hx
        obtain⟨e6,rfl,hm5⟩:=cY (f:=fun n:Str=>AV.str n) hx
        refine uH ?_
        refine bX ?_
        exact hbad (badj (by unfold pK;rw[e6])) (hm04.trans hm5 (fun _ _ e=>e))
      ·have:j=0:=by simp at hc3;omega
       subst this
       refine uG ?_
       have hrk:rdU c T4=rdV {c with writes:=av} Tj:=by
        unfold rdU;rw[hL,hpj]
        show(match ni av (some ([],Tj)) with|some (l,T')=>rdV {c with writes:=l} T'|none=>none)=_
        simp only[ni,List.append_nil]
       obtain⟨g1,g2,_⟩:=hst.sk hm4
       refine dD [(0, .ptr (some (rb,0))),(2, .ptr (some (s.nx,0))),(3, .ptr (some (b3,0)))] ⟨rfl,{c with writes:=av},{z with w:= .slc al av.length cl xl},Tj,hst.on hm4 hb4 h4 hokj hTj g1 g2 hla.sli (fun d hd=>?_) hst.xs,hrd.trans hrk⟩ (by simp[aI,az])
       rcases hd with hd|hd|hd
       ·exact .inl (.inl hd)
       ·exact .inl (.inr (.inl hd))
       ·exact .inr ⟨hlb d hd,hla.lt hd⟩
     ·intro v s3 hx
      obtain⟨hn,rfl,hm3⟩:=cY (f:=fun n:Nat=>AV.int .i64 (n:Int)) hx
      refine uH ?_
      refine bX ?_
      exact hbad (by unfold rdU rdL;rw[hn]) (hst.m.trans hm3 (fun _ _ e=>e))
    ·rintro L s2 ⟨rfl,c,z,T4,hst,hrd⟩
     have n02:=hst.m.nx
     have hb3lt:=hst.bx.lt
     have hlen:=hst.len
     have hbad:∀ {s'},rdV c T4=none→Am.Mod (fun c=>c=rb) s s'→oA s rb (gI T) (.pan jz s'):=fun h hm=>oA.bad (hrd.trans h) hm
     refine uG ?_
     refine aj (eU ho.rd hst.rd (by omega)) ?_ ?_
     ·intro v s3 hx
      obtain⟨d1,T5,e5,rfl,h3,hm3,hok3⟩:=rd_some (f:=fun n:Int=>AV.int .i64 n) hx
      have r5:=cH e5
      refine uL ?_
      refine aj (eU ho.rd h3 (by omega)) ?_ ?_
      ·intro v s4 hx
       obtain⟨d2,T6,e6,rfl,h4,hm4,hok4⟩:=rd_some (f:=fun n:Int=>AV.int .i64 n) hx
       have r6:=cH e6
       refine uL ?_
       refine aj (eU ho.rd h4 (by omega)) ?_ ?_
       ·intro v s5 hx
        obtain⟨d3,T7,e7,rfl,h5,hm5,hok5⟩:=rd_some (f:=fun n:Int=>AV.int .i64 n) hx
        have r7:=cH e7
        have hm25:=(hm3.trans hm4 (fun _ _ e=>e)).trans hm5 (fun _ _ e=>e)
        have g5:=hst.bx.mod hm25 (by omega)
        obtain⟨s6,st6,g6,hm6,n6⟩:=g5.stm (X:=X) (t:=3) (i:=7) (w:= .int .i64 d1) rfl ay rfl rfl
        obtain⟨s7,st7,g7,hm7,n7⟩:=g6.stm (X:=X) (t:=3) (i:=8) (w:= .int .i64 d2) rfl ay rfl rfl
        obtain⟨s8,st8,g8,hm8,n8⟩:=g7.stm (X:=X) (t:=3) (i:=9) (w:= .int .i64 d3) rfl ay rfl rfl
        have hm28:Am.Mod (fun d=>d=rb∨d=b3) s2 s8:=(((hm25.mono (C:=fun d=>d=rb∨d=b3) (fun _ _ e=> .inl e)).trans hm6 (fun _ _ e=> .inr e)).trans hm7 (fun _ _ e=> .inr e)).trans hm8 (fun _ _ e=> .inr e)
        have h8:Bx s8 rb [.str T7]:=((h5.mod hm6 (by omega)).mod hm7 (by omega)).mod hm8 (by omega)
        have g8:Bx s8 b3 (bY {c with dl:=d1,after:=d2,held:=d3} z):=g8
        have hrv:rdV c T4=rdX {c with dl:=d1,after:=d2,held:=d3} T7:=by unfold rdV;rw[e5];simp only;rw[e6];simp only;rw[e7]
        obtain⟨k1,k2,k3⟩:=hst.sk hm28
        have hst8:Stg s rb s.nx b3 s8 {c with dl:=d1,after:=d2,held:=d3} z T7:=hst.on hm28 g8 h8 hok5 (by omega) k1 k2 k3 (fun d hd=> .inl hd) hst.xs
        rw[hrv] at hrd
        clear hbad
        have hbad:∀ {s'},rdX {c with dl:=d1,after:=d2,held:=d3} T7=none→Am.Mod (fun c=>c=rb) s s'→oA s rb (gI T) (.pan jz s'):=fun h hm=>oA.bad (hrd.trans h) hm
        have hm08:=hst8.m
        generalize ({c with dl:=d1,after:=d2,held:=d3}:Cmd)=cA at*
        refine bD (by simp(disch:=omega) only[uB,uT,mA,nC,nX,Nat.zero_add,st6,st7,st8];exact rfl) ?_
        refine uG ?_
        refine aj (iw ho.rd hst8.rd (by omega)) ?_ ?_
        ·intro v s9 hx
         obtain⟨tx,T8,e8,rfl,h9,hm9,hok9⟩:=rd_some (f:=fun n:Str=>AV.str n) hx
         have r8:=fp e8
         have g9:=g8.mod hm9 (by omega)
         obtain⟨s10,Gg,g10,hm10,n10⟩:=g9.stm (X:=X) (t:=9) (i:=10) (w:= .str tx) rfl aF rfl rfl
         have hm810:Am.Mod (fun d=>d=rb∨d=b3) s8 s10:=(hm9.mono (C:=fun d=>d=rb∨d=b3) (fun _ _ e=> .inl e)).trans hm10 (fun _ _ e=> .inr e)
         have g10:Bx s10 b3 (bY {cA with text:=tx} z):=g10
         have hrx:rdX cA T7=rdY {cA with text:=tx} T8:=by unfold rdX;rw[e8]
         obtain⟨k1,k2,k3⟩:=hst8.sk hm810
         have hst10:Stg s rb s.nx b3 s10 {cA with text:=tx} z T8:=hst8.on hm810 g10 (h9.mod hm10 (by omega)) hok9 (by omega) k1 k2 k3 (fun d hd=> .inl hd) hst.xs
         rw[hrx] at hrd
         have hm010:=hst10.m
         generalize ({cA with text:=tx}:Cmd)=cB at*
         refine bD (by simp(disch:=omega) only[uB,uT,ie,Nat.zero_add,Gg];exact rfl) ?_
         refine uG ?_
         refine aj (eU ho.rd hst10.rd (by omega)) ?_ ?_
         ·intro v s11 hx
          obtain⟨cd,T9,e9,rfl,h11,hm11,hok11⟩:=rd_some (f:=fun n:Int=>AV.int .i64 n) hx
          have r9:=cH e9
          have g11:=g10.mod hm11 (by omega)
          obtain⟨s12,JE,g12,hm12,n12⟩:=g11.stm (X:=X) (t:=3) (i:=11) (w:= .int .i64 cd) rfl ay rfl rfl
          have hm1012:Am.Mod (fun d=>d=rb∨d=b3) s10 s12:=(hm11.mono (C:=fun d=>d=rb∨d=b3) (fun _ _ e=> .inl e)).trans hm12 (fun _ _ e=> .inr e)
          have g12:Bx s12 b3 (bY {cB with code:=cd} z):=g12
          have hry:rdY cB T8=rdZ {cB with code:=cd} T9:=by unfold rdY;rw[e9]
          obtain⟨k1,k2,k3⟩:=hst10.sk hm1012
          have hst12:Stg s rb s.nx b3 s12 {cB with code:=cd} z T9:=hst10.on hm1012 g12 (h11.mod hm12 (by omega)) hok11 (by omega) k1 k2 k3 (fun d hd=> .inl hd) hst.xs
          rw[hry] at hrd
          have hm012:=hst12.m
          generalize ({cB with code:=cd}:Cmd)=cC at*
          refine bD (by simp(disch:=omega) only[uB,uT,iV,Nat.zero_add,JE];exact rfl) ?_
          refine uG ?_
          refine aj (Cz ho.rd ho.rows hst12.rd (by omega)) ?_ ?_
          ·intro v s13 hx
           cases er:km T9 with
           |none=>rw[er] at hx;obtain⟨_,e,_⟩:=hx;cases e
           |some p=>
            obtain⟨rows,T10⟩:=p
            rw[er] at hx
            obtain⟨xv,s13',e,hR,h13,hm13,hok13⟩:=hx
            cases e
            have hrz:rdZ cC T9=some ({cC with rows:=rows},T10):=by unfold rdZ;rw[er]
            rw[hrz] at hrd
            rw[hrd]
            have g13:=g12.mod hm13 (by omega)
            obtain⟨vs,hvs,hvz,hvall⟩:=hR.ex
            obtain⟨ax,cx,xx,ex,_⟩:=hvs.ex
            have n1213:=hm13.nx
            obtain⟨s14,Ph,g14,hm14,n14⟩:=g13.stm (X:=X) (t:=38) (i:=12) (w:=v) rfl jt (by rw[ex];rfl) (by rw[ex];rfl)
            have g14:Bx s14 b3 (bY {cC with rows:=rows} {z with x:=v}):=g14
            have hb3l:=g12.lt
            have hm1214:Am.Mod (fun d=>d=rb∨d=b3) s12 s14:=(hm13.mono (C:=fun d=>d=rb∨d=b3) (fun _ _ e=> .inl e)).trans hm14 (fun _ _ e=> .inr e)
            obtain⟨k1,k2,k3⟩:=hst12.sk hm1214
            have hres:=hst12.res.mod hm1214 (by omega)
            have hnb:∀d,s12.nx≤d→d<s13.nx→¬d=b3:=fun d hd _ e=>by omega
            have hR14:=hR.mod hm14 (fun d hd e=>by omega)
            have hone:aX (bY {cC with rows:=rows} {z with x:=v})=true:=by
             have x1:v.one=true:=by rw[ex];rfl
             simp only[bY,aX,DN,Es,pR k1,pR k2,pR k3,x1,Bool.and_self]
            obtain⟨s15,PL,g15,hm15,n15⟩:=hres.Aq (X:=X) (t:=40) (m:=bY {cC with rows:=rows} {z with x:=v}) rfl cn hone
            have all14:=g14.all (X:=X) bZ rfl cn
            have st14':cK X 38 (.ptr (some (b3,12))) (.slc ax (vs.map fun v=>[v]).length cx xx) s13=some (.val (.tup []) s14):=by rw[←ex];exact Ph
            rw[ex]
            refine bD (by simp(disch:=omega) only[uB,uT,dI,Nat.zero_add,st14'];exact rfl) ?_
            repeat(first|refine uS ?_ |refine aa rfl ?_ |refine ad (by simp(disch:=omega) only[uB,uT,all14,PL];exact rfl) ?_)
            rw[←ex]
            refine sC rfl rfl (g15.all bZ rfl cn) ?_
            have n012:=hst12.m.nx
            have hm015:Am.Mod (fun c=>c=rb) s s15:=((hst12.m.trans hm13 (fun _ _ e=>e)).trans hm14 (fun d hd e=>by omega)).trans hm15 (fun d hd e=>by omega)
            have hh:∀d,z.has d→d≠s.nx∧s.nx≤d∧d<s12.nx:=fun d hd=>by have:=hst12.has d hd;omega
            refine⟨{z with x:=v},s15,_,rfl,⟨k1.mod hm15 (fun d hd=>(hh d (.inl hd)).1),k2.mod hm15 (fun d hd=>(hh d (.inr (.inl hd))).1),k3.mod hm15 (fun d hd=>(hh d (.inr (.inr hd))).1),by have:=vC (c:={cC with rows:=rows});have:=(sg hrd).2;omega,by have:=vC (c:={cC with rows:=rows});have:=(sg hrd).2;omega,by have:=vC (c:={cC with rows:=rows});have:=(sg hrd).2;omega,⟨ax,_,cx,xx,ex⟩⟩,hR14.mod hm15 (fun d hd e=>by omega),fun d hd=>?_,hm015⟩
            rcases hd with hd|hd
            ·have:=hh d hd;omega
            ·omega
          ·intro v s13 hx
           cases er:km T9 with
           |some p=>rw[er] at hx;obtain⟨_,_,e,_⟩:=hx;cases e
           |none=>
            rw[er] at hx
            obtain⟨s13',e,hm13⟩:=hx
            cases e
            refine uH ?_
            refine bX ?_
            exact oA.bad (hrd.trans (by unfold rdZ;rw[er])) (hm012.trans hm13 (fun _ _ e=>e))
         ·intro v s11 hx
          obtain⟨e9,rfl,hm11⟩:=cY (f:=fun n:Int=>AV.int .i64 n) hx
          refine uH ?_
          refine bX ?_
          exact oA.bad (hrd.trans (by unfold rdY;rw[e9])) (hm010.trans hm11 (fun _ _ e=>e))
        ·intro v s9 hx
         obtain⟨e8,rfl,hm9⟩:=cY (f:=fun n:Str=>AV.str n) hx
         refine uH ?_
         refine bX ?_
         exact hbad (by unfold rdX;rw[e8]) (hm08.trans hm9 (fun _ _ e=>e))
       ·intro v s5 hx
        obtain⟨e7,rfl,hm5⟩:=cY (f:=fun n:Int=>AV.int .i64 n) hx
        refine uH ?_
        refine bX ?_
        exact hbad (by unfold rdV;rw[e5];simp only;rw[e6];simp only;rw[e7]) (((hst.m.trans hm3 (fun _ _ e=>e)).trans hm4 (fun _ _ e=>e)).trans hm5 (fun _ _ e=>e))
      ·intro v s4 hx
       obtain⟨e6,rfl,hm4⟩:=cY (f:=fun n:Int=>AV.int .i64 n) hx
       refine uH ?_
       refine bX ?_
       exact hbad (by unfold rdV;rw[e5];simp only;rw[e6]) ((hst.m.trans hm3 (fun _ _ e=>e)).trans hm4 (fun _ _ e=>e))
     ·intro v s3 hx
      obtain⟨e5,rfl,hm3⟩:=cY (f:=fun n:Int=>AV.int .i64 n) hx
      refine uH ?_
      refine bX ?_
      exact hbad (by unfold rdV;rw[e5]) (hst.m.trans hm3 (fun _ _ e=>e))
end
end Go.Proofs.Ytofohkdkpbigiaa
end
section
namespace Go.Am
section
variable {X:Ctx}{O:bj}
def SW (X:Ctx)(O:bj)(c:Code)(m:DM)(L:Sl)(s:St)(Q:EX→Fr→St→DM→Prop):Prop:=∀t,cT t L→∃n x fr s' m',evS X (ev X O n) c m ⟨t,[]⟩ s=some (x,fr,s',m')∧Q x fr s' m'
theorem GY {a b:Code}{m:DM}{L:Sl}{s:St}{Q:EX→Fr→St→DM→Prop}(h:SW X O a m L s fun x fr s' m'=>x= .norm∧fr.d=[]∧∃L',cT fr.t L'∧SW X O b m' L' s' Q):SW X O (.seq a b) m L s Q:=fun t ht=>by
 obtain⟨n,x,fr,s1,m1,h1,rfl,h2,L',h3,h4⟩:=h t ht
 obtain⟨t1,d1⟩:=fr
 cases h2
 obtain⟨k,y,fr2,s2,m2,k1,k2⟩:=h4 t1 h3
 refine⟨max n k,y,fr2,s2,m2,?_,k2⟩
 show(match evS X (ev X O (max n k)) a m ⟨t,[]⟩ s with|some (.norm,fr,s,m)=>evS X (ev X O (max n k)) b m fr s|r=>r)=_
 rw[C9 (kJ (Nat.le_max_left n k)) _ _ _ _ _ h1]
 exact C9 (kJ (Nat.le_max_right n k)) _ _ _ _ _ k1
theorem Mq {c:Code}{m:DM}{L:Sl}{s:St}{Q:EX→Fr→St→DM→Prop}(hc:∀e m fr s,evS X e c m fr s=oz m (e c fr s))(h:WL X O c L [] s fun x fr s'=>Q x fr s' m):SW X O c m L s Q:=fun t ht=>by
 obtain⟨n,x,fr,s',h1,h2⟩:=h t ht
 exact⟨n,x,fr,s',m,by rw[hc,h1];rfl,h2⟩
theorem sv {ops:Array Oper}{m:DM}:∀ {l:List Oper} {L L':Sl} {s s':St} {t:Tr AV},(∀o∈l,isRec o=false)→oZ X ops l L s=some (.fin L' s')→cT t L→∃t',cT t' L'∧fD X gf ops l m ⟨t,[]⟩ s=some (.norm,⟨t',[]⟩,s',m)
 |[],L,L',s,s',t,_,h,ht=>by cases h;exact⟨t,ht,rfl⟩
 |o::rest,L,L',s,s',t,hr,h,ht=>by
  have hro:=hr o List.mem_cons_self
  have hrest:∀o∈rest,isRec o=false:=fun o ho=>hr o (List.mem_cons_of_mem _ ho)
  have go:∀ {dst:Option Nat} {v:AV} {s1:St},eA X gf ops o ⟨t,[]⟩ s=kG ⟨t,[]⟩ dst v s1→oZ X ops rest (Go.Am.bO dst v L) s1=some (.fin L' s')→∃t',cT t' L'∧fD X gf ops (o::rest) m ⟨t,[]⟩ s=some (.norm,⟨t',[]⟩,s',m):=by
   intro dst v s1 h1 h2
   obtain⟨t',g1,g2⟩:=sv (m:=m) hrest h2 (ht.bO dst v)
   refine⟨t',g1,?_⟩
   show(match isRec o with|true=>D4 (fD X gf ops rest) ⟨t,[]⟩ o.dst s m (bI ops ⟨t,[]⟩ o)|false=>wJ (fD X gf ops rest) m (eA X gf ops o ⟨t,[]⟩ s))=_
   rw[hro,h1,lT]
   exact g2
  unfold oZ at h
  split at h
  ·cases h
  ·rename_i hw
   have hw':=eK (fr:=⟨t,[]⟩) ht hw
   split at h
   ·rename_i hp
    have hp':=pC (X:=X) (fr:=⟨t,[]⟩) ht hp
    refine go ?_ h
    show xD X _ o ⟨t,[]⟩ s (bI ops ⟨t,[]⟩ o)=_
    rw[hw']
    show mX X o ⟨t,[]⟩ s=_
    unfold mX
    rw[hp']
   ·cases h
  ·rename_i hw
   have hw':=eK (fr:=⟨t,[]⟩) ht hw
   split at h
   ·cases h
   ·rename_i hk
    have hop:=nj (X:=X) (o:=o) (fr:=⟨t,[]⟩) (s:=s) ht hk
    have one:eA X gf ops o ⟨t,[]⟩ s=my gf ⟨t,[]⟩ o.dst s (opG X o.op (gL L) s):=by
     show xD X _ o ⟨t,[]⟩ s (bI ops ⟨t,[]⟩ o)=_
     rw[hw',←hop]
     rfl
    generalize opG X o.op (gL L) s=q at h one
    match q,h with
    |some (.old v),h=>exact go (by rw[one];rfl) h
    |some (.pure v),h=>exact go (by rw[one];simp only[my,kF]) h
    |some (.val v s1),h=>exact go (by rw[one];simp only[my,vR,oW,kF]) h
    |some (.call f args),h=>cases h
    |some (.round b args),h=>cases h
    |some (.pan v),h=>cases h
    |some (.dfr d),h=>cases h
    |none,h=>cases h
theorem IV {id:Nat}{ops:Array Oper}{o1:Oper}{rest:List Oper}{d:Nat}{m:DM}{L L':Sl}{s s':St}{Q:EX→Fr→St→DM→Prop}(hl:ops.toList=o1::rest)(h1:isRec o1=true)(hg:o1.guard=none)(hd:o1.dst=some d)(hr:∀o∈rest,isRec o=false)
  (hrun:oZ X ops rest ((d,(jC m).1)::L) s=some (.fin L' s'))(hQ:∀t,cT t L'→Q .norm ⟨t,[]⟩ s' (jC m).2):SW X O (.region id ops false) m L s Q:=fun t ht=>by
 obtain⟨t',g1,g2⟩:=sv (m:=(jC m).2) hr hrun (ht.put d (jC m).1)
 refine⟨0, .norm,⟨t',[]⟩,s',(jC m).2,?_,hQ t' g1⟩
 have hany:(!false&&ops.toList.any isRec)=true:=by rw[hl];simp[h1]
 show(match !false&&ops.toList.any isRec with|true=>fD X gf ops ops.toList m ⟨t,[]⟩ s|false=>_)=_
 rw[hany,hl]
 show(match isRec o1 with|true=>D4 (fD X gf ops rest) ⟨t,[]⟩ o1.dst s m (bI ops ⟨t,[]⟩ o1)|false=>_)=_
 rw[h1]
 have hw:bI ops ⟨t,[]⟩ o1=some true:=by unfold bI;rw[hg]
 rw[hw]
 show wJ (fD X gf ops rest) (jC m).2 (kG ⟨t,[]⟩ o1.dst (jC m).1 s)=_
 rw[lT,hd]
 exact g2
def Df (X:Ctx)(O:bj)(d:qT)(m:DM)(s:St)(Q:DM→St→Prop):Prop:=∃n m' s',lD X (ev X O n) d m s=some (m',s')∧Q m' s'
theorem MD {d:qT}{fn:Func}{c:Code}{m:DM}{s:St}{Q:DM→St→Prop}(hf:X.fns.get d.fn=some fn)(hc:fn.body=some c)(hr:fn.results.toList=[])
  (h:SW X O c m (aD d.args 0) s fun x fr s' m'=>(x= .norm∨x= .ret)∧fr.d=[]∧Q (settled m') s'):Df X O d m s Q:=by
 obtain⟨n,x,fr,s',m',h1,h2,h3,h4⟩:=h _ (oI d.args)
 refine⟨n,settled m',s',?_,h4⟩
 unfold lD
 rw[hf]
 simp only[hc]
 rw[h1]
 have hres:su X fr s' fn.results=some (.tup []):=by unfold su;rw[hr];rfl
 rcases h2 with rfl|rfl<;>(show(match fr.d,su X fr s' fn.results with|[],some _=>some (settled m',s')| _,_=>none)=_;rw[h3,hres])
def uI (X:Ctx)(O:bj)(fn:Func)(Q:CR→Prop):cf:=fun x fr s=>match x with
 | .norm=>DE1 fr .ret s
 | .ret=>DE1 fr .ret s
 | .pan v=>DE1 fr (.pan v) s
 | .brk _=>False
where
 DE1 (fr:Fr) (m:DM) (s:St):Prop:=match fr.d with
  |[]=>LV fr m s
  |[.fn d]=>Df X O d m s fun m' s'=>LV fr m' s'
  | _=>False
 LV (fr:Fr) (m:DM) (s:St):Prop:=match m with
  | .ret=>∃l,ux X fr s fn.results.toList=some l∧Q (.ret (eV l) s)
  | .pan v=>Q (.pan v s)
  | .rcv _=>False
theorem Cb {fn:Func}{Q:CR→Prop}{e:Ev}{fr:Fr}{m:DM}{s:St}(h:uI.LV X fn Q fr m s):∃r,leave X e fn fr [] m s=some r∧Q r:=by
 cases m with
 |ret=>obtain⟨l,h1,h2⟩:=h;exact⟨_,nh h1,h2⟩
 |pan v=>exact⟨_,rfl,h⟩
 |rcv v=>exact h.elim
theorem E1 {fn:Func}{Q:CR→Prop}{fr:Fr}{m:DM}{s:St}(h:uI.DE1 X O fn Q fr m s):∃n r,leave X (ev X O n) fn fr fr.d m s=some r∧Q r:=by
 obtain⟨t,d⟩:=fr
 unfold uI.DE1 at h
 match d,h with
 |[],h=>obtain⟨r,h1,h2⟩:=Cb (e:=ev X O 0) h;exact⟨0,r,h1,h2⟩
 |[.fn d],h=>
  obtain⟨n,m',s',h1,h2⟩:=h
  obtain⟨r,h3,h4⟩:=Cb (e:=ev X O n) h2
  refine⟨n,r,?_,h4⟩
  show(match lD X (ev X O n) d m s with|some (m,s)=>leave X (ev X O n) fn _ [] m s|none=>none)=_
  rw[h1];exact h3
theorem Ob {f:FuncId}{fn:Func}{c:Code}{args:List AV}{s:St}{Q:CR→Prop}(ho:O f=none)(hf:X.fns.get f=some fn)(hc:fn.body=some c)(h:WL X O c (aD args 0) [] s (uI X O fn Q)):Ca X O (.fn f) args s Q:=by
 obtain⟨n,x,fr,s',h1,h2⟩:=h _ (oI args)
 have key:∀ {m:DM},uI.DE1 X O fn Q fr m s'→(∀k,rD X (ev X O k) fn (some (x,fr,s'))=leave X (ev X O k) fn fr fr.d m s')→Ca X O (.fn f) args s Q:=by
  intro m hd he
  obtain⟨k,r,g1,g2⟩:=E1 hd
  refine⟨max n k,r,?_,g2⟩
  show fN X O (ev X O (max n k)) f args s=_
  unfold fN
  rw[ho]
  show dE X (ev X O (max n k)) f args s=_
  unfold dE
  rw[hf]
  simp only[hc]
  rw[kJ (Nat.le_max_left n k) _ _ _ _ h1,he]
  exact nD (kJ (Nat.le_max_right n k)) _ _ _ _ _ _ g1
 cases x with
 |norm=>exact key h2 fun k=>rfl
 |ret=>exact key h2 fun k=>rfl
 |pan v=>exact key h2 fun k=>rfl
 |brk i=>exact h2.elim
theorem Fu {fn:Func}{Q:CR→Prop}{L:Sl}{s:St}{l:List AV}(h:iN X L s fn.results.toList=some l)(hQ:Q (.ret (eV l) s)):Fin (uI X O fn Q) .ret L [] s:=fun _ ht=>⟨l,gv ht h,hQ⟩
theorem Hf {fn:Func}{Q:CR→Prop}{L:Sl}{s:St}{d:qT}(h:Df X O d .ret s fun m s'=>m= .ret∧∃l,iN X L s' fn.results.toList=some l∧Q (.ret (eV l) s')):Fin (uI X O fn Q) .ret L [.fn d] s:=fun _ ht=>by
 obtain⟨n,m,s',h1,rfl,l,h2,h3⟩:=h
 exact⟨n,_,s',h1,l,gv ht h2,h3⟩
theorem G6 {fn:Func}{Q:CR→Prop}{L:Sl}{s:St}{d:qT}{v:AV}(h:Df X O d (.pan v) s fun m s'=>m= .ret∧∃l,iN X L s' fn.results.toList=some l∧Q (.ret (eV l) s')):Fin (uI X O fn Q) (.pan v) L [.fn d] s:=fun _ ht=>by
 obtain⟨n,m,s',h1,rfl,l,h2,h3⟩:=h
 exact⟨n,_,s',h1,l,gv ht h2,h3⟩
theorem Ce {fn:Func}{Q:CR→Prop}{L:Sl}{s:St}{a1 a2:Nat}{t1 t2:TypeId}{p1 p2 v1 v2:AV}(hr:fn.results.toList=[.cell a1 t1, .cell a2 t2])(k1:lk L a1=some p1)(k2:lk L a2=some p2)(l1:aO X t1 p1 s=some (.old v1))(l2:aO X t2 p2 s=some (.old v2))(hQ:Q (.ret (.tup [v1,v2]) s)):Fin (uI X O fn Q) .ret L [] s:=
 Fu (l:=[v1,v2]) (by rw[hr];simp only[iN,ft k1 l1,ft k2 l2]) hQ
theorem yx {fn:Func}{Q:CR→Prop}{L:Sl}{s:St}{d:qT}{a1 a2:Nat}{t1 t2:TypeId}{p1 p2:AV}(hr:fn.results.toList=[.cell a1 t1, .cell a2 t2])(k1:lk L a1=some p1)(k2:lk L a2=some p2)(h:Df X O d .ret s fun m s'=>m= .ret∧∃v1 v2,aO X t1 p1 s'=some (.old v1)∧aO X t2 p2 s'=some (.old v2)∧Q (.ret (.tup [v1,v2]) s')):Fin (uI X O fn Q) .ret L [.fn d] s:=by
 obtain⟨n,m,s',g1,g2,v1,v2,l1,l2,hQ⟩:=h
 exact Hf ⟨n,m,s',g1,g2,[v1,v2],by rw[hr];simp only[iN,ft k1 l1,ft k2 l2],hQ⟩
theorem FO {fn:Func}{Q:CR→Prop}{L:Sl}{s:St}{d:qT}{v:AV}{a1 a2:Nat}{t1 t2:TypeId}{p1 p2:AV}(hr:fn.results.toList=[.cell a1 t1, .cell a2 t2])(k1:lk L a1=some p1)(k2:lk L a2=some p2)(h:Df X O d (.pan v) s fun m s'=>m= .ret∧∃v1 v2,aO X t1 p1 s'=some (.old v1)∧aO X t2 p2 s'=some (.old v2)∧Q (.ret (.tup [v1,v2]) s')):Fin (uI X O fn Q) (.pan v) L [.fn d] s:=by
 obtain⟨n,m,s',g1,g2,v1,v2,l1,l2,hQ⟩:=h
 exact G6 ⟨n,m,s',g1,g2,[v1,v2],by rw[hr];simp only[iN,ft k1 l1,ft k2 l2],hQ⟩
theorem Df.mono {d:qT}{m:DM}{s:St}{P Q:DM→St→Prop}(h:Df X O d m s P)(hq:∀m s,P m s→Q m s):Df X O d m s Q:=let⟨n,m',s',h1,h2⟩:=h;⟨n,m',s',h1,hq _ _ h2⟩
theorem P4 {g:FuncId}{first args cap:List AV}:va (.func (.func g) first cap) args=some (.dfr ⟨g,first++args++cap⟩):=rfl
end
end Go.Am
end
