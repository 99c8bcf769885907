/-
  A part of the texts.
-/
import GoSem.Extern.Table
import GoSem.Extern.SlicesOverlaps
import Derived.Test.YtofohkdkpbigiaaQax
section
namespace Go.Proofs.Ytofohkdkpbigiaa
open Go.Am
set_option maxRecDepth 10000
set_option maxHeartbeats 1000000
set_option linter.unusedSimpArgs false
noncomputable def Ds:List AV→St→Option CR
 |[],s=>some (.ret (.bool true) s)
 | _,_=>none
section
variable {O:bk}
theorem G0:X.fns.get 3=some Try.f3:=by kernel_rfl
structure GR (O:bk):Prop where
 dow:DoO O
 get:DY O
 dput:I7 O
 new:O 5=none
 snew:O 16=none
 num:O 6=none
 entry:O 8=none
 store:O 9=none
 sget:Ld O
 aw:O 11=some Ds
 times:O 3=none
theorem Nh:Str.of ⟨#[97]⟩=sA:=rfl
theorem Pw:Str.of ⟨#[98]⟩=sB1:=rfl
theorem PW:Str.of ⟨#[99]⟩=sC:=rfl
theorem Ov:Str.of ⟨#[122]⟩=sZ:=rfl
theorem Oi:Str.of ⟨#[98,98]⟩=sBB:=rfl
theorem P5:Str.of ⟨#[49]⟩=⟨1,49⟩:=rfl
theorem PU:Str.of ⟨#[50]⟩=⟨1,50⟩:=rfl
theorem PZ:Str.of ⟨#[57]⟩=⟨1,57⟩:=rfl
theorem vp {a b:Str}:bf X 34 [(0, .str a),(1, .str b)]=some (.pure (.agg [.str a, .str b, .bool false])):=by
 simp only[bf,lx,jE,cI,aF,eI,bZ,cO,AV.cells,db,eL]
 rfl
theorem tz {s:St}{a b:Str}{d:Bool}:bh X 35 1 [(0, .agg [.str a, .str b, .bool d])] s=some (.val (.slc (some (s.nx,0,3)) 1 1 true) {s with h:=s.h.put s.nx (.cells (Tr.of [.str a, .str b, .bool d]) 3),nx:=s.nx+1}):=
 ia (cs:=[.str a, .str b, .bool d]) cM ct jE rfl (by decide) (by decide) rfl rfl
theorem Fv {s:St}{a b c:Str}:bh X 36 3 [(0, .str a),(1, .str b),(2, .str c)] s=some (.val (.slc (some (s.nx,0,1)) 3 3 true) {s with h:=s.h.put s.nx (.cells (Tr.of [.str a, .str b, .str c]) 3),nx:=s.nx+1}):=by
 simp only[bh,dK,aF,wP]
 simp only[dQ,kR,cO,AV.cells,db,eV,aX,gM]
 rfl
theorem IQ {p:Option (Nat×Nat×Nat)}{n c:Nat}{x:Bool}:bf X 40 [(0, .int .i64 2),(6, .slc p n c x)]=some (.pure (.agg [.int .i64 2, .int .i64 0, .int .i64 0, .int .i64 0, .slc none 0 0 true, .slc none 0 0 true, .slc p n c x, .int .i64 0, .int .i64 0, .int .i64 0, .str bE, .int .i64 0, .slc none 0 0 true])):=by
 simp only[bf,bY,iW,cI,ay,aF,fu,fi,ft,gX,bZ,cO,AV.cells,db,eL]
 rfl
theorem Hz {p:Option (Nat×Nat×Nat)}{n c:Nat}{x:Bool}:bf X 40 [(0, .int .i64 2),(3, .int .i64 4),(6, .slc p n c x)]=some (.pure (.agg [.int .i64 2, .int .i64 0, .int .i64 0, .int .i64 4, .slc none 0 0 true, .slc none 0 0 true, .slc p n c x, .int .i64 0, .int .i64 0, .int .i64 0, .str bE, .int .i64 0, .slc none 0 0 true])):=by
 simp only[bf,bY,iW,cI,ay,aF,fu,fi,ft,gX,bZ,cO,AV.cells,db,eL]
 rfl
theorem Hl {p q r:Option (Nat×Nat×Nat)}{n1 c1 n2 c2 n3 c3:Nat}{x1 x2 x3:Bool}{a b:Int}:bf X 40 [(0, .int .i64 2),(3, .int .i64 4),(4, .slc p n1 c1 x1),(5, .slc q n2 c2 x2),(6, .slc r n3 c3 x3),(7, .int .i64 a),(8, .int .i64 b)]=some (.pure (.agg [.int .i64 2, .int .i64 0, .int .i64 0, .int .i64 4, .slc p n1 c1 x1, .slc q n2 c2 x2, .slc r n3 c3 x3, .int .i64 a, .int .i64 b, .int .i64 0, .str bE, .int .i64 0, .slc none 0 0 true])):=by
 simp only[bf,bY,iW,cI,ay,aF,fu,fi,ft,gX,bZ,cO,AV.cells,db,eL]
 rfl
theorem sU {c:Cmd}(h:lN c=true)(hl:aN (cg c)≤19996):(gu c).2=0:=by
 have hle:(oO c).len=aN (cg c):=by unfold oO;rw[q8,kf];exact Nat.add_zero _
 unfold gu
 rw[if_pos h,if_pos (by rw[nt,hle];omega)]
theorem vb {s:St}{c:Cmd}{k r w:AV}(hk:Sli s k 1 (c.keys.map kr))(hr:Sli s r 2 (c.ranges.map pr))(hw:Sli s w 3 (c.writes.map wrt))(h0:c.rows=[])(hl:c.keys.length≤100000∧c.ranges.length≤100000∧c.writes.length≤100000)
  (hb:∀d,(blk k=some d∨blk r=some d∨blk w=some d)→d<s.nx)(hok:nD c):p9 s c ⟨k,r,w, .slc none 0 0 true⟩:=
 ⟨⟨hk,hr,hw,hl.1,hl.2.1,hl.2.2,⟨_,_,_,_,rfl⟩⟩,⟨fun _=>False,by rw[h0];exact⟨[],Acc.nil.sli,fun c hc=>(by cases hc),trivial⟩,fun d hd=>hd.elim⟩,hb,hok⟩
theorem zK {v n:Nat}(h:v<256^n):Str.ok ⟨n,v⟩:=h
theorem ok1:nD tC1:=⟨fun k hk=>(by cases hk),fun k hk=>(by cases hk),fun k hk=>(by rcases List.mem_singleton.mp hk with rfl;exact⟨zK (by decide),zK (by decide)⟩),oD,fun k hk=>(by cases hk)⟩
theorem M1 (n:Nat):(kg n).ok:=by rcases lH n with h|h|h<;>rw[h]<;>exact zK (by decide)
theorem ok2 (n:Nat):nD (tC2 (kg n)):=⟨fun k hk=>(by cases hk),fun k hk=>(by cases hk),fun k hk=>(by rcases List.mem_singleton.mp hk with rfl;exact⟨M1 n,zK (by decide)⟩),oD,fun k hk=>(by cases hk)⟩
theorem ok3 (a b:Int):nD (tC3 a b):=⟨fun k hk=>(by rcases List.mem_singleton.mp hk with rfl;exact zK (by decide)),fun k hk=>(by rcases List.mem_singleton.mp hk with rfl;exact⟨zK (by decide),zK (by decide)⟩),fun k hk=>(by rcases List.mem_singleton.mp hk with rfl;exact⟨zK (by decide),zK (by decide)⟩),oD,fun k hk=>(by cases hk)⟩
theorem Of:aN (cg tC1)≤19996:=by decide
theorem N5 (n:Nat):aN (cg (tC2 (kg n)))≤19996:=by rcases lH n with h|h|h<;>rw[h]<;>decide
theorem Pt (a b:Int):aN (cg (tC3 a b))≤19996:=by
 show aN (cg (tC3 0 0))≤19996
 decide
theorem Qa:(gu tC1).2=0:=sU (by decide) Of
theorem P7 (n:Nat):(gu (tC2 (kg n))).2=0:=sU (by rcases lH n with h|h|h<;>rw[h]<;>decide) (N5 n)
theorem Qf {a b:Nat}(ha:a≤255)(hb:b≤255):(gu (tC3 a b)).2=0:=by
 refine sU ?_ (Pt _ _)
 have h1:cZ (a:Int)=true:=by unfold cZ;simp;omega
 have h2:cZ (b:Int)=true:=by unfold cZ;simp;omega
 have h3:lN (tC3 0 0)=true:=by decide
 unfold lN at h3 ⊢
 simp only[Bool.and_eq_true] at h3 ⊢
 refine⟨h3.1,?_,h3.2.2⟩
 simp only[ux,tC3,List.all_cons,List.all_nil,h1,h2]
 rfl
theorem oY {s:St}{b es:Nat}{x:Bool}{r:List AV}(h:Bx s b r)(hr:r.length=es):Sli s (.slc (some (b,0,es)) 1 1 x) es [r]:=
 Bx.sli (rows:=[r]) (by simpa using h) (fun q hq=>by rcases List.mem_singleton.mp hq with rfl;exact hr) rfl
theorem D1:MOK ⟨500,0,zP 500,[],[]⟩:=⟨EA (by decide) (by decide),by decide,rfl⟩
theorem ym {m m':MM}{t:Int}{c:Cmd}{d:Dn}(h:DoR m t c 0 m' d):m'.dN.length≤m.dN.length+1:=by
 rcases h with⟨_,rfl,_⟩|⟨_,_,m1,code,h1,_,rfl⟩
 ·omega
 ·have:m1.dN=m.dN:=by
   rcases h1 with⟨_,h1⟩|⟨_,rfl,_⟩
   ·exact(vS h1).2.1
   ·rfl
  simp[this]
theorem IS (ho:GR O){s:St}(htd:Tidy s){t dl af:Nat}(ht:t≤255)(hdl:dl≤255)(haf:af≤255){b:Bool}:
  Ca X O (.fn 3) [.int .u8 (t:Int), .int .u8 (dl:Int), .int .u8 (af:Int), .bool b] s fun r=>∃s',r= .ret (.bool true) s':=by
 refine aZ ho.times G0 rfl ?_
 unfold aB aB aB aB aB
 have e10:(10:Int)+(t:Int)=((10+t:Nat):Int):=by omega
 repeat(first|refine uS ?_ |refine aa rfl ?_ |refine ad (by simp(disch:=omega) only[uB,uT,sY gT aJ,e10];exact rfl) ?_)
 refine au (FF ho.new ho.snew (by decide) (by decide)) ?_ ?_
 ·rintro r s1 ⟨p,s1',y0,e,hM,hm1⟩
  cases e
  refine uL ?_
  refine uG ?_
  refine au (Gh ho.num) ?_ ?_
  ·rintro r s' e
   cases e
   refine uL ?_
   refine uH ?_
   refine uJ [0,1,2,3,9,10,26] ?_
   refine ae rfl rfl (fun hc=>?_) (fun hc=>?_)
   ·cases hc
   ·have htd1:=hm1.tidy htd
    let s2:St:={s1 with h:=s1.h.put s1.nx (.cells (Tr.of [.str sA, .str ⟨1,49⟩, .bool false]) 3),nx:=s1.nx+1}
    have hm2:Am.Mod No s1 s2:=(Mod.refl _ s1).new _
    have hb2:Bx s2 s1.nx (wrt (sA,⟨1,49⟩,false)):=Bx.box (s:=s1)
    have hc1:p9 s2 tC1 ⟨.slc none 0 0 true, .slc none 0 0 true, .slc (some (s1.nx,0,3)) 1 1 true, .slc none 0 0 true⟩:=
     vb Acc.nil.sli Acc.nil.sli (oY hb2 rfl) rfl ⟨by decide,by decide,by decide⟩ (fun d hd=>by rcases hd with hd|hd|hd<;>first|(cases hd;done)|(cases hd;exact Nat.lt_succ_self _)) ok1
    repeat(first|refine uS ?_ |refine aa rfl ?_ |refine ad (by simp(disch:=omega) only[uB,uT,Nh,P5,vp,tz,IQ];exact rfl) ?_)
    refine au (qG ho.dput ho.entry (hm2.tidy htd1) hc1 (Nat.le_trans Of (by decide))) ?_ ?_
    ·rintro r s3 ⟨s3',e,hm3⟩
     cases e
     have hm13:=hm2.trans hm3 (fun _ _ h=>h)
     refine uL ?_
     refine au (vv ho.dow ho.get (hM.no hm13) D1 (hm13.tidy htd1) (by decide) ok1 Qa) ?_ ?_
     ·rintro r s4 ⟨s4',m1,y1,q1,e,hM1,hD1,hm4,_⟩
      cases e
      have hk1:=CT D1 hD1
      have hl1:m1.dN.length≤1:=ym hD1
      have htd4:Tidy s4:=hm4.tidy (hm13.tidy htd1)
      refine uL ?_
      refine uH ?_
      obtain⟨cc,hcc,_⟩:=eo (cs:=[.int .i64 2, .int .i64 0, .int .i64 0, .int .i64 4, .slc (some (s4.nx,0,1)) 1 1 true, .slc (some (s4.nx+1,0,2)) 1 1 true, .slc (some (s4.nx+1+1,0,3)) 1 1 true, .int .i64 (dl:Int), .int .i64 (af:Int), .int .i64 0, .str bE, .int .i64 0, .slc none 0 0 true]) (zs:=[.int .i64 0, .int .i64 0, .int .i64 0, .int .i64 0, .slc none 0 0 true, .slc none 0 0 true, .slc none 0 0 true, .int .i64 0, .int .i64 0, .int .i64 0, .str ⟨0,0⟩, .int .i64 0, .slc none 0 0 true]) rfl
      have hstc:∀ {h:Tr AB} {nx:Nat},cF X 40 (.ptr (some (s4.nx+1+1+1,0))) (.agg [.int .i64 2, .int .i64 0, .int .i64 0, .int .i64 4, .slc (some (s4.nx,0,1)) 1 1 true, .slc (some (s4.nx+1,0,2)) 1 1 true, .slc (some (s4.nx+1+1,0,3)) 1 1 true, .int .i64 (dl:Int), .int .i64 (af:Int), .int .i64 0, .str bE, .int .i64 0, .slc none 0 0 true]) {h:=h.put (s4.nx+1+1+1) (.cells (Tr.of [.int .i64 0, .int .i64 0, .int .i64 0, .int .i64 0, .slc none 0 0 true, .slc none 0 0 true, .slc none 0 0 true, .int .i64 0, .int .i64 0, .int .i64 0, .str ⟨0,0⟩, .int .i64 0, .slc none 0 0 true]) 13),nx:=nx,gl:=s4.gl,sh:=s4.sh}=some (.val (.tup []) {h:=(h.put (s4.nx+1+1+1) (.cells (Tr.of [.int .i64 0, .int .i64 0, .int .i64 0, .int .i64 0, .slc none 0 0 true, .slc none 0 0 true, .slc none 0 0 true, .int .i64 0, .int .i64 0, .int .i64 0, .str ⟨0,0⟩, .int .i64 0, .slc none 0 0 true]) 13)).put (s4.nx+1+1+1) (.cells cc 13),nx:=nx,gl:=s4.gl,sh:=s4.sh}):=
       de cD rfl rfl hcc
      refine ad (by simp(disch:=omega) only[uB,uT,Nh,Pw,PW,Ov,PZ,eZ,AW,yg,vp,tz,sY gT aJ,Hl,bS iW rfl,AV.cells,List.length_cons,List.length_nil,hstc];exact rfl) ?_;refine eH ?_
      refine cV ?_
      refine Ka hcc fun s5 hn5 hm5 g0 g1 g2 g3=>?_
      have hM5:=hM1.no hm5
      have htd5:=hm5.tidy htd4
      have hc3:p9 s5 (tC3 dl af) ⟨.slc (some (s4.nx,0,1)) 1 1 true, .slc (some (s4.nx+1,0,2)) 1 1 true, .slc (some (s4.nx+2,0,3)) 1 1 true, .slc none 0 0 true⟩:=
       vb (oY (r:=kr sA) g0 rfl) (oY (r:=pr (sB1,sC)) g1 rfl) (oY (r:=wrt (sZ,⟨1,57⟩,false)) g2 rfl) rfl ⟨show(1:Nat)≤100000 by decide,show(1:Nat)≤100000 by decide,show(1:Nat)≤100000 by decide⟩ (fun d hd=>by rcases hd with hd|hd|hd<;>(cases hd;omega)) (ok3 _ _)
      have C1:∀d,y1.C d→d<s4.nx:=fun d hd=>by
       rcases hd with hd|hd|hd|hd
       ·exact hM1.st.lt d hd
       ·rw[hd];exact hM1.lt.2
       ·rw[hd];exact hM1.lt.1
       ·exact hM1.acc.lt hd
      refine uJ [0,1,2,3,9,10,12] ?_
      refine jY (fun L s'=>L=[(0, .int .u8 (t:Int)),(1, .int .u8 (dl:Int)),(2, .int .u8 (af:Int)),(3, .bool b),(9, .int .i64 ((10+t:Nat):Int)),(10,p),(12, .ptr (some (s4.nx+1+1+1,0)))]∧∃m2 y2 q2,MaR s' p m2 y2∧MOK m2∧m2.dN.length≤2∧Tidy s'∧Bx s' s4.nx (kr sA)∧Bx s' (s4.nx+1) (pr (sB1,sC))∧Bx s' (s4.nx+2) (wrt (sZ,⟨1,57⟩,false))∧Bx s' (s4.nx+3) (cj (tC3 dl af) ⟨.slc (some (s4.nx,0,1)) 1 1 true, .slc (some (s4.nx+1,0,2)) 1 1 true, .slc (some (s4.nx+2,0,3)) 1 1 true, .slc none 0 0 true⟩)∧((b=true∧DoR m1 5 (tC2 (kg t)) 0 m2 q2)∨(b=false∧m2=m1))) ?_ ?_
      ·refine uG ?_
       refine uJ [0,1,2,3,9,10,12,43] ?_
       refine ae rfl rfl (fun hc=>?_) (fun hc=>?_)
       ·have hrem:((t:Int)).tmod 3=((t % 3:Nat):Int):=by rw[Int.tmod_eq_emod_of_nonneg (by omega)];omega
        let s6:St:={s5 with h:=s5.h.put s5.nx (.cells (Tr.of [.str sA, .str sB1, .str sBB]) 3),nx:=s5.nx+1}
        let s7:St:={s6 with h:=s6.h.put s6.nx (.cells (Tr.of [.str (kg t), .str ⟨1,50⟩, .bool false]) 3),nx:=s6.nx+1}
        have l6:aO X 9 (.ptr (some (s5.nx,t % 3))) s6=some (.old (.str (kg t))):=by
         refine aj aE rfl aF bu ?_
         rw[df]
         unfold kg
         have:t % 3=0∨t % 3=1∨t % 3=2:=by omega
         rcases this with h|h|h<;>rw[h]<;>rfl
        have hm57:Am.Mod No s5 s7:=((Mod.refl _ s5).new _).new _
        have hb7:Bx s7 s6.nx (wrt (kg t,⟨1,50⟩,false)):=Bx.box (s:=s6)
        have hc2:p9 s7 (tC2 (kg t)) ⟨.slc none 0 0 true, .slc none 0 0 true, .slc (some (s6.nx,0,3)) 1 1 true, .slc none 0 0 true⟩:=
         vb Acc.nil.sli Acc.nil.sli (oY hb7 rfl) rfl ⟨show(0:Nat)≤100000 by decide,show(0:Nat)≤100000 by decide,show(1:Nat)≤100000 by decide⟩ (fun d hd=>by rcases hd with hd|hd|hd<;>first|(cases hd;done)|(cases hd;exact Nat.lt_succ_self _)) (ok2 t)
        have sl3:bh X 36 3 [(0, .str sA),(1, .str sB1),(2, .str sBB)] s5=some (.val (.slc (some (s5.nx,0,1)) 3 3 true) s6):=Fv
        have sl1:bh X 35 1 [(0, .agg [.str (kg t), .str ⟨1,50⟩, .bool false])] s6=some (.val (.slc (some (s6.nx,0,3)) 1 1 true) s7):=tz
        repeat(first|refine uS ?_ |refine aa rfl ?_ |refine ad (by simp(disch:=omega) only[uB,uT,Nh,Pw,Oi,PU,sl3,Ol (show(3:Int)≠0 by decide),hrem,aT dK aF,Int.toNat_natCast,Nat.mul_one,Nat.zero_add,l6,vp,sl1,Hz];exact rfl) ?_)
        refine au (qG ho.dput ho.entry (hm57.tidy htd5) hc2 (Nat.le_trans (N5 t) (by decide))) ?_ ?_
        ·rintro r s8 ⟨s8',e,hm8⟩
         cases e
         have hm58:=hm57.trans hm8 (fun _ _ h=>h)
         refine uL ?_
         refine au (vv ho.dow ho.get (hM5.no hm58) hk1 (hm58.tidy htd5) (by omega) (ok2 t) (P7 t)) ?_ ?_
         ·rintro r s9 ⟨s9',m2,y2,q2,e,hM2,hD2,hm9,_⟩
          cases e
          refine uL ?_
          refine uG ?_
          have n58:=hm58.nx
          have kp:∀ {d:Nat} {l:List AV},s4.nx≤d→Bx s5 d l→Bx s9 d l:=fun hd hb=>(hb.no hm58).mod hm9 (fun hC=>by have:=C1 _ hC;omega)
          exact dH [(0, .int .u8 (t:Int)),(1, .int .u8 (dl:Int)),(2, .int .u8 (af:Int)),(3, .bool b),(9, .int .i64 ((10+t:Nat):Int)),(10,p),(12, .ptr (some (s4.nx+1+1+1,0)))] ⟨rfl,m2,y2,q2,hM2,CT hk1 hD2,Nat.le_trans (ym hD2) (by omega),hm9.tidy (hm58.tidy htd5),kp (Nat.le_refl _) g0,kp (by omega) g1,kp (by omega) g2,kp (by omega) g3, .inl ⟨hc,hD2⟩⟩ (by simp[aI,aD])
         ·rintro r s' ⟨_,_,_,_,e,_⟩
          cases e
        ·rintro r s' ⟨_,e,_⟩
         cases e
       ·refine uG ?_
        exact dH [(0, .int .u8 (t:Int)),(1, .int .u8 (dl:Int)),(2, .int .u8 (af:Int)),(3, .bool b),(9, .int .i64 ((10+t:Nat):Int)),(10,p),(12, .ptr (some (s4.nx+1+1+1,0)))] ⟨rfl,m1,y1,⟨0,0,0,0⟩,hM5,hk1,by omega,htd5,g0,g1,g2,g3, .inr ⟨hc,rfl⟩⟩ (by simp[aI,aD])
      ·rintro L s6 ⟨rfl,m2,y2,q2,hM2,hk2,hl2,htd6,f0,f1,f2,f3,hcase⟩
       have hc3:p9 s6 (tC3 dl af) ⟨.slc (some (s4.nx,0,1)) 1 1 true, .slc (some (s4.nx+1,0,2)) 1 1 true, .slc (some (s4.nx+2,0,3)) 1 1 true, .slc none 0 0 true⟩:=
        vb (oY (r:=kr sA) f0 rfl) (oY (r:=pr (sB1,sC)) f1 rfl) (oY (r:=wrt (sZ,⟨1,57⟩,false)) f2 rfl) rfl ⟨show(1:Nat)≤100000 by decide,show(1:Nat)≤100000 by decide,show(1:Nat)≤100000 by decide⟩ (fun d hd=>by
         have:=f0.lt;have:=f1.lt;have:=f2.lt
         rcases hd with hd|hd|hd<;>(cases hd;assumption)) (ok3 _ _)
       have l12:aO X 40 (.ptr (some (s4.nx+1+1+1,0))) s6=some (.old (.agg (cj (tC3 dl af) ⟨.slc (some (s4.nx,0,1)) 1 1 true, .slc (some (s4.nx+1,0,2)) 1 1 true, .slc (some (s4.nx+2,0,3)) 1 1 true, .slc none 0 0 true⟩))):=f3.all bY rfl cD
       repeat(first|refine uS ?_ |refine aa rfl ?_ |refine ad (by simp(disch:=omega) only[uB,uT,l12];exact rfl) ?_)
       refine au (qG ho.dput ho.entry htd6 hc3 (Nat.le_trans (Pt _ _) (by decide))) ?_ ?_
       ·rintro r s8 ⟨s8',e,hm8⟩
        cases e
        refine uL ?_
        refine au (vv ho.dow ho.get (hM2.no hm8) hk2 (hm8.tidy htd6) (by omega) (ok3 _ _) (Qf hdl haf)) ?_ ?_
        ·rintro r s9 ⟨s9',m3,y3,q3,e,hM3,hD3,hm9,_⟩
         cases e
         have hk3:=CT hk2 hD3
         obtain⟨g4,g5⟩:=F4 (n:=t) (by omega) (by omega) (by omega) hD1 hcase hD3
         obtain⟨cd,hcd,_⟩:=eo (cs:=[.int .i64 q3.client, .int .i64 q3.seq, .int .i64 q3.time, .int .i64 q3.code]) (zs:=[.int .i64 0, .int .i64 0, .int .i64 0, .int .i64 0]) rfl
         refine bC (by simp(disch:=omega) only[uB,uT,bS pO rfl,AV.cells,dn,wK hcd];exact rfl) ?_
         refine uH ?_
         refine dG hcd fun s10 hn10 hm10 g10=>?_
         refine uJ [1,2,3,9,10,13] ?_
         refine ad (by simp(disch:=omega) only[uB,uT];exact rfl) ?_
         refine eH ?_
         refine cV ?_
         have hM10:=hM3.no hm10
         generalize hw:wQ ((10+t:Nat):Int) dl af b=w at g4 g5
         refine jY (fun L s'=>s10=s'∧L=[(10,p),(9, .int .i64 ((10+t:Nat):Int)),(13, .ptr (some (s9.nx,0))),(14, .int .i64 w)]) ?_ ?_
         ·have lf:∀ {L:Sl},aI [10,9,13,14] L=[(10,p),(9, .int .i64 ((10+t:Nat):Int)),(13, .ptr (some (s9.nx,0))),(14, .int .i64 w)]→Fin (JF (fun L s'=>s10=s'∧L=[(10,p),(9, .int .i64 ((10+t:Nat):Int)),(13, .ptr (some (s9.nx,0))),(14, .int .i64 w)]) []) .norm L [] s10:=fun h=>dH [(10,p),(9, .int .i64 ((10+t:Nat):Int)),(13, .ptr (some (s9.nx,0))),(14, .int .i64 w)] ⟨rfl,rfl⟩ h
          by_cases c1:dl≠0∧dl<10+t
          ·have w1:w=14:=by rw[←hw];unfold wQ;rw[if_pos ⟨by omega,by omega⟩]
           have d1:decide ((dl:Int)=0)=false:=by simp;omega
           have d2:decide ((dl:Int)<((10+t:Nat):Int))=true:=by simp;omega
           repeat(first|refine uS ?_ |refine aa rfl ?_ |refine ad (by simp(disch:=omega) only[uB,uT,d1,d2,Bool.not_false,sY gT aJ];exact rfl) ?_)
           refine ae rfl rfl (fun hc=>?_) (fun hc=>?_)
           ·refine uG ?_
            exact lf (by simp[aI,aD,w1])
           ·cases hc
          ·have go2:w=(if((10+t:Nat):Int)<af then 15 else if b=true then 13 else 0):=by rw[←hw];unfold wQ;rw[if_neg (by omega)]
           have tail:∀ {L:Sl},lk L 60=some (.bool false)→True:=fun _=>trivial
           have d2:dl≠0→decide ((dl:Int)<((10+t:Nat):Int))=false:=fun h=>by simp;omega
           by_cases c0:dl=0
           ·have d1:decide ((dl:Int)=0)=true:=by simp;omega
            repeat(first|refine uS ?_ |refine aa rfl ?_ |refine ad (by simp(disch:=omega) only[uB,uT,d1,Bool.not_true,aQ];exact rfl) ?_)
            refine ae rfl rfl (fun hc=>?_) (fun hc=>?_)
            ·cases hc
            ·repeat(first|refine uS ?_ |refine aa rfl ?_ |refine ad (by simp(disch:=omega) only[uB,uT,sY gT aJ];exact rfl) ?_)
             refine ae rfl rfl (fun hc=>?_) (fun hc=>?_)
             ·refine uG ?_
              exact lf (by simp at hc;simp[aI,aD,go2,hc])
             ·refine uG ?_
              refine ae rfl rfl (fun hc2=>?_) (fun hc2=>?_)
              ·refine uG ?_
               exact lf (by simp at hc;simp[aI,aD,go2,hc,hc2])
              ·refine uG ?_
               exact lf (by simp at hc;simp[aI,aD,go2,hc,hc2])
           ·have d1:decide ((dl:Int)=0)=false:=by simp;omega
            repeat(first|refine uS ?_ |refine aa rfl ?_ |refine ad (by simp(disch:=omega) only[uB,uT,d1,d2 c0,Bool.not_false,sY gT aJ];exact rfl) ?_)
            refine ae rfl rfl (fun hc=>?_) (fun hc=>?_)
            ·cases hc
            ·repeat(first|refine uS ?_ |refine aa rfl ?_ |refine ad (by simp(disch:=omega) only[uB,uT,sY gT aJ];exact rfl) ?_)
             refine ae rfl rfl (fun hc=>?_) (fun hc=>?_)
             ·refine uG ?_
              exact lf (by simp at hc;simp[aI,aD,go2,hc])
             ·refine uG ?_
              refine ae rfl rfl (fun hc2=>?_) (fun hc2=>?_)
              ·refine uG ?_
               exact lf (by simp at hc;simp[aI,aD,go2,hc,hc2])
              ·refine uG ?_
               exact lf (by simp at hc;simp[aI,aD,go2,hc,hc2])
         ·rintro L _ ⟨rfl,rfl⟩
          refine uG ?_
          refine au (B6 ho.store hM10) ?_ ?_
          ·rintro r s' e
           cases e
           refine bC (by simp(disch:=omega) only[uB,uT,Ov];exact rfl) ?_
           refine au (A9 ho.sget hM10.st hk3.st (t:=((10+t:Nat):Int)) (k:=sZ)) ?_ ?_
           ·rintro r s11 ⟨s11',e,hm11⟩
            cases e
            refine uL ?_
            refine uH ?_
            rw[g5]
            have dq:decide (q3.code=w)=true:=by simpa using g4
            have dz:(decide (w=0)==decide (w=0))=true:=by simp
            repeat(first|refine uS ?_ |refine aa rfl ?_ |refine ad (by simp(disch:=omega) only[uB,uT,M6,Nat.zero_add,(g10.no hm11).ld (i:=3) rfl aJ rfl ay,dq,O3 nf,dz];exact rfl) ?_)
            refine au (qx (Q:=fun z=>z= .ret (.bool true) s11) ho.aw rfl rfl) ?_ ?_
            ·rintro v s' e
             cases e
             refine uL ?_
             refine uG ?_
             refine ai rfl ?_
             exact⟨_,rfl⟩
            ·rintro v s' e
             cases e
           ·rintro r s' ⟨_,e,_⟩
            cases e
          ·rintro r s' e
           cases e
        ·rintro r s' ⟨_,_,_,_,e,_⟩
         cases e
       ·rintro r s' ⟨_,e,_⟩
        cases e
     ·rintro r s' ⟨_,_,_,_,e,_⟩
      cases e
    ·rintro r s' ⟨_,e,_⟩
     cases e
  ·rintro r s' e
   cases e
 ·rintro r s' ⟨_,_,_,e,_⟩
  cases e
end
end Go.Proofs.Ytofohkdkpbigiaa
end
section
namespace Go.Am
section
variable {P:Program}{f:FuncId}{fn:Func}
theorem C7 {e:Array Value→Sem Value}(hP:P.funcs[f]? =some fn)(hb:fn.body.isNone=true)(hn:(fn.name== "runtime.NumGoroutine")=false)(h1:(Extern.findNext fn).isNone=true)(h2:Extern.find fn=some e)(args:Array Value)(w:World):
  (callFunc f args).run P w=((e args).run P w).andThen fun v w=> .ok (.value v) w:=by
 have h1':Extern.findNext fn=none:=by simpa using h1
 have hn':fn.name≠ "runtime.NumGoroutine" :=by simpa using hn
 have hb':fn.body=none:=by simpa using hb
 simp[callFunc,hP,hn',hb',h1',h2,Sem.run_bind]
structure EB (P:Program)(f:FuncId)(e:Array Value→Sem Value):Prop where
 ex:∃fn,P.funcs[f]? =some fn∧fn.body.isNone=true∧(fn.name== "runtime.NumGoroutine")=false∧(Extern.findNext fn).isNone=true∧Extern.find fn=some e
theorem EB.run {e:Array Value→Sem Value}(h:EB P f e)(args:Array Value)(w:World):(callFunc f args).run P w=((e args).run P w).andThen fun v w=> .ok (.value v) w:=by
 obtain⟨fn,h1,h2,h3,h4,h5⟩:=h.ex
 exact C7 h1 h2 h3 h4 h5 args w
def fG (P:Program)(f:FuncId)(g:List AV→St→Option CR):Prop:=∀args s r,g args s=some r→∀ι w cargs,VRs ι args cargs.toList→HR P ι s w→ny P ι s w r f cargs
theorem VRs.xm {ι:Inj}{a:AV}{cargs:Array Value}(h:VRs ι [a] cargs.toList):∃ca,cargs= #[ca]∧VR ι a ca:=by
 obtain⟨cl⟩:=cargs
 match cl,h with
 |[ca],h=>exact⟨ca,rfl,by simpa[VRs] using h⟩
 |[],h=>simp[VRs] at h
 | _::_::_,h=>simp[VRs] at h
theorem VRs.Qi {ι:Inj}{a b:AV}{cargs:Array Value}(h:VRs ι [a,b] cargs.toList):∃ca cb,cargs= #[ca,cb]∧VR ι a ca∧VR ι b cb:=by
 obtain⟨cl⟩:=cargs
 match cl,h with
 |[ca,cb],h=>simp only[VRs,and_true] at h;exact⟨ca,cb,rfl,h.1,h.2⟩
 |[],h=>simp[VRs] at h
 |[_],h=>simp[VRs] at h
 | _::_::_::_,h=>simp[VRs] at h
theorem yn {ι:Inj}{s:St}{w:World}{cargs:Array Value}{v:AV}{cv:Value}(hH:HR P ι s w)(hr:(callFunc f cargs).run P w= .ok (.value cv) w)(hv:VR ι v cv):ny P ι s w (.ret v s) f cargs:=
 .inr ⟨cv,w,hr,v,s,rfl,ι,hv,hH,Ext.refl _ _ _⟩
theorem Aw (h:EB P f Extern.MathFloatBits.float64frombits):fG P f pF:=by
 intro args s r hr ι w cargs hv hH
 unfold pF at hr
 split at hr
 ·rename_i s n
  cases hr
  obtain⟨ca,rfl,ha⟩:=hv.xm
  simp only[VR] at ha
  subst ha
  refine yn hH (cv:= .float .f64 n) ?_ (by simp[VR])
  rw[h.run]
  have e0:Extern.MathFloatBits.float64frombits #[.int .u64 (Int.ofNat n)]=(pure (.float .f64 n):Sem Value):=rfl
  rw[e0];simp
 ·cases hr
def C8:List (FuncId× (List AV→St→Option CR))→bk
 |[],_=>none
 |(g,k)::l,f=>match Nat.beq f g with
  |true=>some k
  |false=>C8 l f
theorem u0 {l:List (FuncId× (List AV→St→Option CR))}(h:∀p∈l,fG P p.1 p.2):oI P (C8 l):=by
 intro f g hg
 induction l with
 |nil=>cases hg
 |cons p l ih=>
  unfold C8 at hg
  split at hg
  ·rename_i hf
   cases hg
   have:=Nat.beq_eq.mp hf
   subst this
   exact h _ (by simp)
  ·exact ih (fun q hq=>h q (by simp[hq])) hg
end
end Go.Am
end
section
namespace Go.Am
noncomputable def ml:List AV→St→Option CR
 |[.slc (some (b,o,es)) n c x, .slc (some (b',o',es')) n' c' x'],s=>match(!Nat.beq b b'&&wN s (.slc (some (b,o,es)) n c x))&& (Nat.blt 0 n&& (Nat.blt 0 es&&Nat.blt 0 es')) with
  |true=>match s.h.get b' with
   |some (.cells _ _)=>some (.ret (.bool false) s)
   | _=>none
  |false=>none
 | _,_=>none
section
variable {P:Program}{X:Ctx}
theorem GX (hX:dC P X){f:FuncId}{ps rs:Array TypeId}(h:EB P f (Extern.SlicesOverlaps.overlaps ps rs)){t e:TypeId}{sz:Nat}(hp:ps[0]? =some t)(hu:X.und t=some (.slice e))(hs:X.size e=some sz):fG P f ml:=by
 intro args s r hr ι w cargs hv hH
 unfold ml at hr
 split at hr
 ·rename_i b o es n c x b' o' es' n' c' x'
  split at hr
  ·rename_i hc
   simp only[Bool.and_eq_true] at hc
   obtain⟨⟨h1,h2⟩,h3,h4,h5⟩:=hc
   have h5:=Nat.blt_eq.mp h5
   have h3:=Nat.blt_eq.mp h3
   have h4:=Nat.blt_eq.mp h4
   have hne:b≠b':=fun e=>by rw[e] at h1;simp at h1
   split at hr
   ·rename_i tb kb hb'
    cases hr
    obtain⟨ca,cb,rfl,ha,hb⟩:=hv.Qi
    simp only[VR] at ha hb
    obtain⟨cb1,d1,off1,m1,q1,rfl,_,p1,p2,_,p3⟩:=ha
    obtain⟨cb2,d2,off2,m2,q2,rfl,_,r1,r2,_,r3⟩:=hb
    simp only[wN] at h2
    cases hg:s.h.get b with
    |none=>rw[hg] at h2;cases h2
    |some ab=>
     rw[hg] at h2
     cases ab with
     |cells t1 k1=>
      simp only at h2
      have hk:=Nat.blt_eq.mp h2
      obtain⟨cs1,e1,fz1,w1,w2,_,w4⟩:=hH.br b cb1 d1 _ q1 hg
      obtain⟨cs2,e2,fz2,v1,v2,_,_⟩:=hH.br b' cb2 d2 _ q2 hb'
      have hcb:cb1≠cb2:=fun e=>hne (hH.inj b b' cb1 d1 d2 _ _ q1 (e▸q2) hg hb')
      have hm1:0<m1:=by omega
      have hpos:0<m1*es:=Nat.mul_pos hm1 h4
      obtain⟨g1,g2⟩:=w2 off1 (by omega)
      have g3:=w4 hk
      have hf1:w.frozen? ⟨cb1,off1,none⟩=false:=by simp[World.frozen?,w1];omega
      have hf2:w.frozen? ⟨cb1,cs1.size,none⟩=false:=by simp[World.frozen?,w1];omega
      have hsz:cs1.size≠0:=by omega
      refine yn hH (cv:= .bool false) ?_ (by simp[VR])
      rw[h.run]
      have hbl:(cb1==cb2)=false:=by simpa using hcb
      have hun:=aL hX hu w
      have hsi:=cK hX hs w
      have hov:(Extern.SlicesOverlaps.overlaps ps rs #[.slice (some ⟨cb1,off1,none⟩) n m1, .slice (some ⟨cb2,off2,none⟩) n' m2]).run P w= .ok (.bool false) w:=by
       have e0:Extern.SlicesOverlaps.overlaps ps rs #[.slice (some ⟨cb1,off1,none⟩) n m1, .slice (some ⟨cb2,off2,none⟩) n' m2]=(do
        let some t:=ps[0]? |stuck "slices.overlaps: no parameter types"
        let .slice elem ←underlying t|stuck "slices.overlaps: slice type expected"
        let size ←sizeOf elem
        if n=0∨n'=0∨size=0 then pure (.bool false)
        else if(cb1 != cb2)&& (←frozen ⟨cb1,off1,none⟩)&& (←frozen ⟨cb2,off2,none⟩) then unsupported .addressObserved
        else do
         if cb1 != cb2 then do
          noView ⟨cb1,off1,none⟩;noView ⟨cb2,off2,none⟩
          if ←mayBeOne ⟨cb1,off1,none⟩ ⟨cb2,off2,none⟩ then return .bool ((←choose (.extern "sameAddr.stringBytes" 2))==1)
         pure (.bool (cb1==cb2&&off1<off2+n'*size&&off2<off1+n*size)):Sem Value):=rfl
       rw[e0]
       by_cases hz:n=0∨n'=0∨sz=0
       ·simp[hp,hun,hsi,hz]
       ·have hsz2:cs2.size≠0:=by
         have:0<m2*es':=Nat.mul_pos (by omega) h5
         have:=(v2 off2 (by omega)).1
         omega
        obtain⟨k2,hk2⟩:∃k,cs2.size=k+1:=⟨cs2.size- 1,by omega⟩
        simp[hp,hun,hsi,hz,hcb,hbl,hf1,hf2,noView,viewAt,World.shape?,w1,v1,mayBeOne,stringish,hsz,hk2]
      rw[hov];simp
     | _=>cases h2
   ·cases hr
  ·cases hr
 ·cases hr
end
section
variable {X:Ctx}
theorem Ab {t e:TypeId}{a:Option (Nat×Nat×Nat)}{n c:Nat}(hu:X.und t=some (.slice e)):Bh X t (.slc a n c true)=some (.int .i64 (c:Int)):=by
 simp only[Bh,hu]
theorem jZ {t elem es:Nat}{s:St}{b off n c:Nat}{x:Bool}{k:IntKind}{l:Int}(hu:X.und t=some (.slice elem))(hs:X.size elem=some es)(h0:0≤l)(hn:l≤(n:Int))(hc:l<(c:Int)):cN X s t (.slc (some (b,off,es)) n c x) (some (.int k l)) none none=some (.slc (some (b,off+l.toNat*es,es)) (n- l.toNat) (c- l.toNat) x):=by
 by_cases hl:l=0
 ·subst hl
  have h1:=lO (k:=k) (y:=n) (Int.le_refl 0) hn
  simp only[cN,hu,qI,oL,tV,nP,tL,h1,hs,mq,Bg,show Nat.beq es es=true from Nat.beq_refl es,show Nat.beq (Int.toNat 0) 0=true from rfl,show Int.toNat 0=0 from rfl,Nat.zero_mul,Nat.add_zero,Nat.sub_zero]
 ·exact zY hu hs (by omega) hn hc
theorem HV {t elem es:Nat}{s:St}{b off n:Nat}{k:IntKind}(hu:X.und t=some (.slice elem))(hs:X.size elem=some es)(c:Nat)(hc:n≤c):∃v,cN X s t (.slc (some (b,off,es)) n c true) (some (.int k (n:Int))) none none=some v:=by
 have h1:=lO (k:=k) (i:=(n:Int)) (y:=n) (Int.natCast_nonneg n) (Int.le_refl _)
 rw[Int.toNat_natCast] at h1
 simp only[cN,hu,qI,oL,tV,nP,tL,h1,hs,mq,Bg,show Nat.beq es es=true from Nat.beq_refl es]
 cases Nat.beq n 0<;>cases Nat.beq c n<;>exact⟨_,rfl⟩
theorem Oz {t u e es len cap k b off m:Nat}{ik:IntKind}{z:AV}{s:St}{c:Tr AV}{old:List AV}(hi:X.und u=some (.int ik))(hu:X.und t=some (.slice e))(he:X.elem e=some es)(hz:X.zero e=some z)(hzo:aX z.cells=true)(hzl:z.cells.length=es)
  (hc:cap<len+k)(hl:len+k≤1000000)(hb:s.h.get b=some (.cells c m))(ho:ldL c off (len*es)=some old):
  ∃t',jO X t u (.slc (some (b,off,es)) len cap true) (.int .i64 (k:Int)) s=some (.val (.slc (some (s.nx,0,es)) (len+k) (len+k) false) {s with h:=s.h.put s.nx (.cells t' ((len+k)*es+cf m)),nx:=s.nx+1})∧ldL t' 0 (len*es)=some old∧∀j,j<(len+k)*es→∃u,t'.get j=some u:=by
 have hol:=eM ho
 obtain⟨t',e1,e2,e3⟩:∃t',jT off len es m c (kR z.cells k)=some t'∧ldL t' 0 (len*es)=some old∧∀j,j<(len+k)*es→∃u,t'.get j=some u:=by
  have hrl:(kR z.cells k).length=k*es:=by rw[fe,hzl]
  unfold jT
  split
  ·rename_i hq
   rw[Bool.and_eq_true] at hq
   have q1:=Nat.beq_eq.mp hq.1
   subst q1
   rw[ho]
   refine⟨_,rfl,aR.mpr ⟨hol,fun i u hi=>?_⟩,fun j hj=>?_⟩
   ·have:=(List.getElem?_eq_some_iff.mp hi).1
    rw[gf,if_neg (by omega)]
    exact(aR.mp ho).2 i u hi
   ·rw[gf]
    by_cases hj2:len*es≤j
    ·rw[if_pos ⟨hj2,by rw[hrl,←Nat.add_mul];exact hj⟩]
     exact⟨_,List.getElem?_eq_getElem (by rw[hrl];rw[Nat.add_mul] at hj;omega)⟩
    ·rw[if_neg (by omega)]
     have hj3:j<old.length:=by omega
     have:=(aR.mp ho).2 j old[j] (List.getElem?_eq_getElem hj3)
     rw[Nat.zero_add] at this
     exact⟨_,this⟩
  ·rw[ho]
   refine⟨_,rfl,?_,fun j hj=>?_⟩
   ·exact jt (by rw[List.drop_zero,List.take_left' hol]) hol
   ·rw[df]
    exact⟨_,List.getElem?_eq_getElem (by rw[List.length_append,hol,hrl,←Nat.add_mul];exact hj)⟩
 refine⟨t',?_,e2,e3⟩
 have h1:(Nat.blt cap (len+k)&& (Nat.ble (len+k) 1000000&& (aX z.cells&&Nat.beq z.cells.length es)))=true:=by
  rw[Nat.blt_eq.mpr hc,Nat.ble_eq.mpr hl,hzo,hzl,show Nat.beq es es=true from Nat.beq_refl es];rfl
 show(match X.und u with
  |some (.slice _)=>cL X t (.slc (some (b,off,es)) len cap true) (.int .i64 (.ofNat k)) s
  |some .string=>cL X t (.slc (some (b,off,es)) len cap true) (.int .i64 (.ofNat k)) s
  |some (.int _)=>sF X t (.slc (some (b,off,es)) len cap true) (.int .i64 (.ofNat k)) s
  | _=>none)=_
 simp only[hi,sF,hu,he,hz,h1,kW,show Nat.beq es es=true from Nat.beq_refl es,fp hb,e1,qX,gM]
theorem mD {t e es n n' c' b off m:Nat}{x x':Bool}{c:Nat}{b' off':Nat}{s:St}{d d':Tr AV}{new:List AV}(hu:X.und t=some (.slice e))(hs:X.size e=some es)(hy:bb s es (.slc (some (b',off',es)) (min n' n) (min n' n) false)=some (min n' n,new))(h0:0<min n' n)(ho:aX new=true)(hb:s.h.get b=some (.cells d m))(hst:stL new off d=some d'):
  jj X t (.slc (some (b,off,es)) n c x) (.slc (some (b',off',es)) n' c' x') s=some (.val (.int .i64 ((min n' n:Nat):Int)) {s with h:=s.h.put b (.cells d' m)}):=by
 have hz:Nat.beq (min n' n) 0=false:=AD (by omega)
 simp only[jj,hu,hs,Db,lenOf,cutAt,hy,wC,hz,ho,fp hb,hst,yP]
theorem v9 {s:St}{t:Tr AV}{b off es n c m:Nat}{x:Bool}{l:List AV}(h:s.h.get b=some (.cells t m))(hl:ldL t off (n*es)=some l)(hn:0<n):bb s es (.slc (some (b,off,es)) n c x)=some (n,l):=by
 simp only[bb,AD (show n≠0 by omega),fp h,hl]
end
theorem vR {l:List AV}{off:Nat}{c c':Tr AV}(h:stL l off c=some c'):ldL c' off l.length=some l:=
 aR.mpr ⟨rfl,fun i u hi=>by
  have:=(List.getElem?_eq_some_iff.mp hi).1
  rw[kG h,if_pos ⟨by omega,by omega⟩,Nat.add_sub_cancel_left];exact hi⟩
theorem oA {l m:List AV}{off a n:Nat}{c c':Tr AV}(h:stL l off c=some c')(hd:a+n≤off∨off+l.length≤a)(hl:ldL c a n=some m):ldL c' a n=some m:=by
 obtain⟨h1,h2⟩:=aR.mp hl
 refine aR.mpr ⟨h1,fun i u hi=>?_⟩
 have:=(List.getElem?_eq_some_iff.mp hi).1
 rw[kG h,if_neg (by omega)]
 exact h2 i u hi
theorem Bo {l:List AV}{off:Nat}{c c':Tr AV}(h:stL l off c=some c'){j:Nat}{u:AV}(hj:c.get j=some u):∃u,c'.get j=some u:=by
 rw[kG h]
 split
 ·rename_i hc
  exact⟨_,List.getElem?_eq_getElem (by omega)⟩
 ·exact⟨u,hj⟩
theorem wR {c:Tr AV}{off n:Nat}{l:List AV}(h:ldL c off n=some l){k:Nat}(hk:k≤n):ldL c off k=some (l.take k):=by
 obtain⟨h1,h2⟩:=aR.mp h
 refine aR.mpr ⟨by rw[List.length_take];omega,fun i u hi=>?_⟩
 rw[List.getElem?_take] at hi
 split at hi
 ·exact h2 i u hi
 ·cases hi
theorem sj {c:Tr AV}{off n:Nat}{l:List AV}(h:ldL c off n=some l){k:Nat}(hk:k≤n):ldL c (off+k) (n- k)=some (l.drop k):=by
 obtain⟨h1,h2⟩:=aR.mp h
 refine aR.mpr ⟨by rw[List.length_drop];omega,fun i u hi=>?_⟩
 rw[List.getElem?_drop] at hi
 rw[Nat.add_assoc]
 exact h2 _ u hi
theorem nG {l:List AV}(h:aX l=true):(∀k,aX (l.take k)=true)∧∀k,aX (l.drop k)=true:=by
 have key:∀ (l m:List AV),aX (l++m)=true→aX l=true∧aX m=true:=by
  intro l
  induction l with
  |nil=>intro m h;exact⟨rfl,h⟩
  |cons a l ih=>
   intro m h
   simp only[List.cons_append,aX,Bool.and_eq_true] at h ⊢
   exact⟨⟨h.1,(ih m h.2).1⟩,(ih m h.2).2⟩
 exact⟨fun k=>(key (l.take k) (l.drop k) (by rw[List.take_append_drop];exact h)).1,fun k=>(key (l.take k) (l.drop k) (by rw[List.take_append_drop];exact h)).2⟩
structure oP (es:Nat)(s:St)(b o n k m i c N ky:Nat)(t ty:Tr AV)(old new:List AV):Prop where
 hb:s.h.get b=some (.cells t N)
 hc:s.h.get c=some (.cells ty ky)
 ne:b≠c
 ko:ldL t o (n*es)=some old
 kn:ldL ty 0 (k*es)=some new
 oo:aX old=true
 on:aX new=true
 full:n+k≤m→∀j,j<(n+k)*es→∃u,t.get (o+j)=some u
 k0:0<k
 n0:0<n
 i0:i≤n
 nm:n≤m
 le:n+k≤1000000
 pl:ky<jK
 lb:b<s.nx
 lc:c<s.nx
def vN (es b o n k m N:Nat)(res:List AV)(s1:St):CR→Prop:=fun r=>∃v s' t',r= .ret v s'∧Mod (fun d=>d=b) s1 s'∧s'.sh=s1.sh∧
 ((n+k≤m∧v= .slc (some (b,o,es)) (n+k) m true∧s'.nx=s1.nx∧s'.h.get b=some (.cells t' N)∧ldL t' o ((n+k)*es)=some res)∨
  (v= .slc (some (s1.nx,0,es)) (n+k) (n+k) false∧s'.nx=s1.nx+1∧s'.h.get s1.nx=some (.cells t' ((n+k)*es+cf N))∧ldL t' 0 ((n+k)*es)=some res))
section
variable {es:Nat}{s:St}{b o n k m i c N ky:Nat}{t ty:Tr AV}{old new:List AV}
theorem three {T:Tr AV}{o a k d:Nat}{A K D:List AV}(h1:ldL T o a=some A)(h2:ldL T (o+a) k=some K)(h3:ldL T (o+a+k) d=some D):ldL T o (a+k+d)=some (A++K++D):=
 hY (hY h1 h2) (by rw[←Nat.add_assoc];exact h3)
theorem oP.room (h:oP es s b o n k m i c N ky t ty old new)(hm:n+k≤m):∃t1 t2,stL (old.drop (i*es)) (o+(i+k)*es) t=some t1∧stL new (o+i*es) t1=some t2∧ldL t2 o ((n+k)*es)=some (old.take (i*es)++new++old.drop (i*es)):=by
 have hol:=eM h.ko
 have hnl:=eM h.kn
 have hi:=h.i0
 have hin:i*es+(n- i)*es=n*es:=by rw[←Nat.add_mul];congr 1;omega
 have hnk:(n+k)*es=i*es+k*es+(n- i)*es:=by rw[←Nat.add_mul,←Nat.add_mul];congr 1;omega
 have hik:(i+k)*es=i*es+k*es:=Nat.add_mul _ _ _
 have hfull:=h.full hm
 rw[hnk] at hfull ⊢
 rw[hik]
 have hdl:(old.drop (i*es)).length=(n- i)*es:=by rw[List.length_drop];omega
 obtain⟨t1,e1⟩:=gQ (c:=t) (l:=old.drop (i*es)) (off:=o+(i*es+k*es)) fun j hj=>by
  obtain⟨u,hu⟩:=hfull (i*es+k*es+j) (by omega)
  exact⟨u,by rw[←hu];congr 1;omega⟩
 obtain⟨t2,e2⟩:=gQ (c:=t1) (l:=new) (off:=o+i*es) fun j hj=>by
  obtain⟨u,hu⟩:=hfull (i*es+j) (by omega)
  exact Bo e1 (by rw[Nat.add_assoc];exact hu)
 refine⟨t1,t2,e1,e2,three ?_ ?_ ?_⟩
 ·exact oA e2 (by omega) (oA e1 (by omega) (wR h.ko (by omega)))
 ·rw[←hnl];exact vR e2
 ·refine oA e2 (by omega) ?_
  rw[←hdl,Nat.add_assoc];exact vR e1
theorem oP.grow (h:oP es s b o n k m i c N ky t ty old new){T:Tr AV}(hT:ldL T 0 (i*es)=some (old.take (i*es)))(hF:∀j,j<(n+k)*es→∃u,T.get j=some u):∃t1 t2,stL new (0+i*es) T=some t1∧stL (old.drop (i*es)) (0+(i+k)*es) t1=some t2∧ldL t2 0 ((n+k)*es)=some (old.take (i*es)++new++old.drop (i*es)):=by
 have hol:=eM h.ko
 have hnl:=eM h.kn
 have hi:=h.i0
 have hin:i*es+(n- i)*es=n*es:=by rw[←Nat.add_mul];congr 1;omega
 have hnk:(n+k)*es=i*es+k*es+(n- i)*es:=by rw[←Nat.add_mul,←Nat.add_mul];congr 1;omega
 have hik:(i+k)*es=i*es+k*es:=Nat.add_mul _ _ _
 rw[hnk] at hF ⊢
 rw[hik]
 have hdl:(old.drop (i*es)).length=(n- i)*es:=by rw[List.length_drop];omega
 obtain⟨t1,e1⟩:=gQ (c:=T) (l:=new) (off:=0+i*es) fun j hj=>hF _ (by omega)
 obtain⟨t2,e2⟩:=gQ (c:=t1) (l:=old.drop (i*es)) (off:=0+(i*es+k*es)) fun j hj=>by
  obtain⟨u,hu⟩:=hF (0+(i*es+k*es)+j) (by omega)
  exact Bo e1 hu
 refine⟨t1,t2,e1,e2,three ?_ ?_ ?_⟩
 ·exact oA e2 (by omega) (oA e1 (by omega) hT)
 ·refine oA e2 (by omega) ?_
  rw[←hnl];exact vR e1
 ·rw[←hdl,Nat.add_assoc];exact vR e2
theorem oP.PK (h:oP es s b o n k m n c N ky t ty old new)(hm:n+k≤m):∃t1,stL new (o+n*es) t=some t1∧ldL t1 o ((n+k)*es)=some (old.take (n*es)++new++old.drop (n*es)):=by
 have hol:=eM h.ko
 have hnl:=eM h.kn
 have hfull:=h.full hm
 rw[Nat.add_mul] at hfull ⊢
 obtain⟨t1,e1⟩:=gQ (c:=t) (l:=new) (off:=o+n*es) fun j hj=>by
  obtain⟨u,hu⟩:=hfull (n*es+j) (by omega)
  exact⟨u,by rw[Nat.add_assoc];exact hu⟩
 refine⟨t1,e1,?_⟩
 rw[List.take_of_length_le (by omega),List.drop_of_length_le (by omega),List.append_nil]
 exact hY (oA e1 (by omega) h.ko) (by rw[←hnl];exact vR e1)
theorem oP.ES (h:oP es s b o n k m i c N ky t ty old new){s':St}(hs:s'.h.get c=some (.cells ty ky)){q r:Nat}{x:Bool}(hq:q=k):bb s' es (.slc (some (c,0,es)) q r x)=some (q,new):=by
 subst hq
 exact v9 hs h.kn h.k0
end
end Go.Am
end
section
namespace Go.Proofs.Ytofohkdkpbigiaa
open Go.Am
set_option maxRecDepth 10000
set_option maxHeartbeats 1000000
set_option linter.unusedSimpArgs false
section
variable {O:bk}
theorem zv:X.fns.get 89=some Try.f89:=by kernel_rfl
theorem FN (hO:O 89=none)(hV:O 95=some ml){s:St}{b o n k m i c N ky:Nat}{t ty:Tr AV}{old new:List AV}{xy:Bool}{cy:Nat}(h:oP 2 s b o n k m i c N ky t ty old new)(hi:i<n)(hm:n+k≤m):
  Ca X O (.fn 89) [.slc (some (b,o,2)) n m true, .int .i64 (i:Int), .slc (some (c,0,2)) k cy xy] s (vN 2 b o n k m N (old.take (i*2)++new++old.drop (i*2)) s):=by
 obtain⟨t1,t2,e1,e2,e3⟩:=h.room hm
 have hk0:=h.k0
 have hle:=h.le
 have hnm:=h.nm
 have hne:=h.ne
 have hD:ldL t (o+i*2) ((n- i)*2)=some (old.drop (i*2)):=by
  have:=sj h.ko (k:=i*2) (Nat.mul_le_mul_right _ (by omega))
  rw[←Nat.sub_mul] at this;exact this
 have hoD:=(nG h.oo).2 (i*2)
 have hon:=h.on
 let s1:St:={s with h:=s.h.put b (.cells t1 N)}
 let s2:St:={s1 with h:=s1.h.put b (.cells t2 N)}
 have c1:jj X 52 (.slc (some (b,o+(i+k)*2,2)) (n+k- (i+k)) (m- (i+k)) true) (.slc (some (b,o+i*2,2)) (n+k- i) (m- i) true) s=some (.val (.int .i64 ((min (n+k- i) (n+k- (i+k)):Nat):Int)) s1):=
  mD bF bX (by rw[show min (n+k- i) (n+k- (i+k))=n- i by omega];exact v9 h.hb hD (by omega)) (by omega) hoD h.hb e1
 have hs1c:s1.h.get c=some (.cells ty ky):=(aS (Ne.symm hne)).trans h.hc
 have c2:jj X 52 (.slc (some (b,o+i*2,2)) (n+k- i) (m- i) true) (.slc (some (c,0,2)) k cy xy) s1=some (.val (.int .i64 ((min k (n+k- i):Nat):Int)) s2):=
  mD bF bX (h.ES hs1c (by omega)) (by omega) hon bu e2
 have hov:ml [.slc (some (c,0,2)) k cy xy, .slc (some (b,o+(i+k)*2,2)) (n+k- (i+k)) (m- (i+k)) true] s=some (.ret (.bool false) s):=by
  have h1:Nat.beq c b=false:=by
   cases hq:Nat.beq c b with
   |false=>rfl
   |true=>exact absurd (Nat.beq_eq.mp hq).symm hne
  have h2:wN s (.slc (some (c,0,2)) k cy xy)=true:=by simp only[wN,h.hc,Nat.blt_eq.mpr h.pl]
  simp only[ml,h1,h2,h.hb,Nat.blt_eq.mpr hk0,Bool.not_false,Bool.true_and,show Nat.blt 0 2=true from rfl,Bool.and_self]
 have hii:(i:Int)+(k:Int)=((i+k:Nat):Int):=by omega
 have hnn:(n:Int)+(k:Int)=((n+k:Nat):Int):=by omega
 have sl0:=jZ (X:=X) (s:=s) (b:=b) (off:=o) (n:=n) (c:=m) (x:=true) (k:= .i64) (l:=(i:Int)) bF bX (by omega) (by omega) (by omega)
 have sl1:=Bd (X:=X) (s:=s) (b:=b) (off:=o) (n:=n) (c:=m) (x:=true) (k:= .i64) (h:=((n+k:Nat):Int)) bF bX (by omega) (by omega)
 have sl2:=fun s:St=>jZ (X:=X) (s:=s) (b:=b) (off:=o) (n:=n+k) (c:=m) (x:=true) (k:= .i64) (l:=((i+k:Nat):Int)) bF bX (by omega) (by omega) (by omega)
 have sl3:=fun s:St=>jZ (X:=X) (s:=s) (b:=b) (off:=o) (n:=n+k) (c:=m) (x:=true) (k:= .i64) (l:=(i:Int)) bF bX (by omega) (by omega) (by omega)
 simp only[Int.toNat_natCast] at sl0 sl1 sl2 sl3
 have dk:decide ((k:Int)=0)=false:=by simp;omega
 have di:decide ((i:Int)=(n:Int))=false:=by simp;omega
 have dm:decide ((m:Int)<((n+k:Nat):Int))=false:=by simp;omega
 refine aZ hO zv rfl ?_
 unfold aB aB aB aB
 repeat(first|refine uS ?_ |refine aa rfl ?_ |refine ad (by simp(disch:=omega) only[uB,uT,sl0,dk];exact rfl) ?_)
 refine uJ [0,1,2,7,16] ?_
 refine ae rfl rfl (fun hc=>?_) (fun hc=>?_)
 ·cases hc
 ·repeat(first|refine uS ?_ |refine aa rfl ?_ |refine ad (by simp(disch:=omega) only[uB,uT,di];exact rfl) ?_)
  refine uJ [0,1,2,7,8,22] ?_
  refine ae rfl rfl (fun hc=>?_) (fun hc=>?_)
  ·cases hc
  ·repeat(first|refine uS ?_ |refine aa rfl ?_ |refine ad (by simp(disch:=omega) only[uB,uT,hnn,Ab bF,dm];exact rfl) ?_)
   refine uJ [0,1,2,7,8,31] ?_
   refine ae rfl rfl (fun hc=>?_) (fun hc=>?_)
   ·cases hc
   ·repeat(first|refine uS ?_ |refine aa rfl ?_ |refine ad (by simp(disch:=omega) only[uB,uT,hnn,sl1,hii,sl2];exact rfl) ?_)
    refine au (qx (Q:=fun z=>z= .ret (.bool false) s) hV hov rfl) ?_ ?_
    ·rintro v s' e
     cases e
     refine uL ?_
     refine uH ?_
     refine uJ [0,1,2,7,8,68] ?_
     refine ae rfl rfl (fun hc=>?_) (fun hc=>?_)
     ·refine uH ?_
      refine aV [(0,none),(1,none),(2,none),(3,none),(4,none),(5,none),(6,none),(7,none),(8,some [false,true,true,false,true,true,true,true])] (by kernel_rfl) (by kernel_rfl) (by simp(disch:=omega) only[uB,uT,Nat.reduceEqDiff,↓reduceIte,uD,mask,aC,aA,hii,sl2,sl3,c1];exact rfl) ?_
      repeat(first|refine uS ?_ |refine aa rfl ?_ |refine ad (by simp(disch:=omega) only[uB,uT,sl3,c2];exact rfl) ?_)
      refine ai rfl ?_
      refine⟨_,s2,t2,rfl,((Mod.refl (fun d=>d=b) s).put (.cells t1 N) (.inr rfl) h.lb).put (.cells t2 N) (.inr rfl) h.lb,rfl, .inl ⟨hm,rfl,rfl,bu,e3⟩⟩
     ·cases hc
    ·rintro v s' e
     cases e
theorem EO (hO:O 89=none){s:St}{b o n k m i c N ky:Nat}{t ty:Tr AV}{old new:List AV}{xy:Bool}{cy:Nat}(h:oP 2 s b o n k m i c N ky t ty old new)(hi:i<n)(hm:m<n+k):
  Ca X O (.fn 89) [.slc (some (b,o,2)) n m true, .int .i64 (i:Int), .slc (some (c,0,2)) k cy xy] s (vN 2 b o n k m N (old.take (i*2)++new++old.drop (i*2)) s):=by
 have hk0:=h.k0
 have hle:=h.le
 have hnm:=h.nm
 have hne:=h.ne
 have hD:ldL t (o+i*2) ((n- i)*2)=some (old.drop (i*2)):=by
  have:=sj h.ko (k:=i*2) (Nat.mul_le_mul_right _ (by omega))
  rw[←Nat.sub_mul] at this;exact this
 have hoD:=(nG h.oo).2 (i*2)
 have hon:=h.on
 have hcount:i+(n+k- i)=n+k:=by omega
 obtain⟨T,ez,hT,hF⟩:=Oz (X:=X) (t:=52) (u:=3) (len:=i) (cap:=m) (k:=n+k- i) aJ bF nN mG rfl rfl (by omega) (by omega) h.hb (wR h.ko (k:=i*2) (Nat.mul_le_mul_right _ (by omega)))
 rw[hcount] at ez hF
 obtain⟨t1,t2,e1,e2,e3⟩:=h.grow hT hF
 let s1:St:={s with h:=s.h.put s.nx (.cells T ((n+k)*2+cf N)),nx:=s.nx+1}
 let s2:St:={s1 with h:=s1.h.put s.nx (.cells t1 ((n+k)*2+cf N))}
 let s3:St:={s2 with h:=s2.h.put s.nx (.cells t2 ((n+k)*2+cf N))}
 replace ez:jO X 52 3 (.slc (some (b,o,2)) i m true) (.int .i64 ((n+k- i:Nat):Int)) s=some (.val (.slc (some (s.nx,0,2)) (n+k) (n+k) false) s1):=ez
 have lb:=h.lb
 have lc:=h.lc
 have hs1c:s1.h.get c=some (.cells ty ky):=(aS (by omega)).trans h.hc
 have hs2b:s2.h.get b=some (.cells t N):=(aS (by omega)).trans ((aS (by omega)).trans h.hb)
 have c1:jj X 52 (.slc (some (s.nx,0+i*2,2)) (n+k- i) (n+k- i) false) (.slc (some (c,0,2)) k cy xy) s1=some (.val (.int .i64 ((min k (n+k- i):Nat):Int)) s2):=
  mD bF bX (h.ES hs1c (by omega)) (by omega) hon bu e1
 have c2:jj X 52 (.slc (some (s.nx,0+(i+k)*2,2)) (n+k- (i+k)) (n+k- (i+k)) false) (.slc (some (b,o+i*2,2)) (n- i) (m- i) true) s2=some (.val (.int .i64 ((min (n- i) (n+k- (i+k)):Nat):Int)) s3):=
  mD bF bX (by rw[show min (n- i) (n+k- (i+k))=n- i by omega];exact v9 hs2b hD (by omega)) (by omega) hoD bu e2
 have hii:(i:Int)+(k:Int)=((i+k:Nat):Int):=by omega
 have hnn:(n:Int)+(k:Int)=((n+k:Nat):Int):=by omega
 have hni:((n+k:Nat):Int)- (i:Int)=((n+k- i:Nat):Int):=by omega
 have sl0:=fun s:St=>jZ (X:=X) (s:=s) (b:=b) (off:=o) (n:=n) (c:=m) (x:=true) (k:= .i64) (l:=(i:Int)) bF bX (by omega) (by omega) (by omega)
 have sl1:=Bd (X:=X) (s:=s) (b:=b) (off:=o) (n:=n) (c:=m) (x:=true) (k:= .i64) (h:=(i:Int)) bF bX (by omega) (by omega)
 have sl2:=fun s':St=>jZ (X:=X) (s:=s') (b:=s.nx) (off:=0) (n:=n+k) (c:=n+k) (x:=false) (k:= .i64) (l:=(i:Int)) bF bX (by omega) (by omega) (by omega)
 have sl3:=fun s':St=>jZ (X:=X) (s:=s') (b:=s.nx) (off:=0) (n:=n+k) (c:=n+k) (x:=false) (k:= .i64) (l:=((i+k:Nat):Int)) bF bX (by omega) (by omega) (by omega)
 simp only[Int.toNat_natCast] at sl0 sl1 sl2 sl3
 have dk:decide ((k:Int)=0)=false:=by simp;omega
 have di:decide ((i:Int)=(n:Int))=false:=by simp;omega
 have dm:decide ((m:Int)<((n+k:Nat):Int))=true:=by simp;omega
 refine aZ hO zv rfl ?_
 unfold aB aB aB aB
 repeat(first|refine uS ?_ |refine aa rfl ?_ |refine ad (by simp(disch:=omega) only[uB,uT,sl0,dk];exact rfl) ?_)
 refine uJ [0,1,2,7,16] ?_
 refine ae rfl rfl (fun hc=>?_) (fun hc=>?_)
 ·cases hc
 ·repeat(first|refine uS ?_ |refine aa rfl ?_ |refine ad (by simp(disch:=omega) only[uB,uT,di];exact rfl) ?_)
  refine uJ [0,1,2,7,8,22] ?_
  refine ae rfl rfl (fun hc=>?_) (fun hc=>?_)
  ·cases hc
  ·repeat(first|refine uS ?_ |refine aa rfl ?_ |refine ad (by simp(disch:=omega) only[uB,uT,hnn,Ab bF,dm];exact rfl) ?_)
   refine uJ [0,1,2,7,8,31] ?_
   refine ae rfl rfl (fun hc=>?_) (fun hc=>?_)
   ·(repeat(first|refine uS ?_ |refine aa rfl ?_));refine ad (by simp(disch:=omega) only[uB,uT,hnn,hni,sl1,ez];exact rfl) ?_;(repeat(first|refine uS ?_ |refine aa rfl ?_))
    (repeat(first|refine uS ?_ |refine aa rfl ?_));refine ad (by simp(disch:=omega) only[uB,uT,sl2,c1];exact rfl) ?_;(repeat(first|refine uS ?_ |refine aa rfl ?_))
    refine aV [(0,none),(1,none),(2,none),(3,none),(4,none),(5,none),(6,none),(7,none),(8,some [false,true,true,false,true,true,true,true])] (by kernel_rfl) (by kernel_rfl) (by simp(disch:=omega) only[uB,uT,Nat.reduceEqDiff,↓reduceIte,uD,mask,aC,aA,hii,sl3,sl0,c2];exact rfl) ?_
    refine uG ?_
    refine ai rfl ?_
    refine⟨_,s3,t2,rfl,(((Mod.refl (fun d=>d=b) s).new (.cells T ((n+k)*2+cf N))).put (.cells t1 ((n+k)*2+cf N)) (.inl (Nat.le_refl _)) (Nat.lt_succ_self _)).put (.cells t2 ((n+k)*2+cf N)) (.inl (Nat.le_refl _)) (Nat.lt_succ_self _),rfl, .inr ⟨rfl,rfl,bu,e3⟩⟩
   ·cases hc
theorem IX (hO:O 89=none){s:St}{b o n k m c N ky:Nat}{t ty:Tr AV}{old new:List AV}{xy:Bool}{cy:Nat}(h:oP 2 s b o n k m n c N ky t ty old new):
  Ca X O (.fn 89) [.slc (some (b,o,2)) n m true, .int .i64 (n:Int), .slc (some (c,0,2)) k cy xy] s (vN 2 b o n k m N (old.take (n*2)++new++old.drop (n*2)) s):=by
 have hk0:=h.k0
 have hle:=h.le
 have hnm:=h.nm
 have hne:=h.ne
 have hon:=h.on
 have hsrc:=h.ES (q:=k) (r:=cy) (x:=xy) h.hc rfl
 have hk:Nat.beq k 0=false:=AD (by omega)
 obtain⟨v0,sl0⟩:=HV (X:=X) (s:=s) (b:=b) (off:=o) (n:=n) (k:= .i64) bF bX m hnm
 have dk:decide ((k:Int)=0)=false:=by simp;omega
 have di:decide ((n:Int)=(n:Int))=true:=by simp
 obtain⟨v,s',ea,hq⟩:∃v s',cL X 52 (.slc (some (b,o,2)) n m true) (.slc (some (c,0,2)) k cy xy) s=some (.val v s')∧vN 2 b o n k m N (old.take (n*2)++new++old.drop (n*2)) s (.ret v s'):=by
  by_cases hm:n+k≤m
  ·obtain⟨t1,e1,e3⟩:=h.PK hm
   have h1:Nat.ble (n+k) m=true:=Nat.ble_eq.mpr hm
   refine⟨.slc (some (b,o,2)) (n+k) m true,{s with h:=s.h.put b (.cells t1 N)},?_,_,_,t1,rfl,(Mod.refl (fun d=>d=b) s).put (.cells t1 N) (.inr rfl) h.lb,rfl, .inl ⟨hm,rfl,rfl,bu,e3⟩⟩
   simp only[cL,bF,nN,hsrc,rq,hk,hon,h1,uz,fp h.hb,e1,yP]
  ·have h1:Nat.ble (n+k) m=false:=by
    cases hq:Nat.ble (n+k) m with
    |false=>rfl
    |true=>exact absurd (Nat.ble_eq.mp hq) hm
   have h2:Nat.ble (n+k) 1000000=true:=Nat.ble_eq.mpr hle
   have hol:=eM h.ko
   have hnl:=eM h.kn
   have hres:old.take (n*2)++new++old.drop (n*2)=old++new:=by rw[List.take_of_length_le (by omega),List.drop_of_length_le (by omega),List.append_nil]
   obtain⟨T,g1,g2⟩:∃T,jT o n 2 N t new=some T∧ldL T 0 ((n+k)*2)=some (old++new):=by
    unfold jT
    split
    ·rename_i hq
     rw[Bool.and_eq_true] at hq
     have q1:=Nat.beq_eq.mp hq.1
     have hko:=h.ko
     rw[q1] at hko
     rw[hko]
     refine⟨_,rfl,?_⟩
     rw[Nat.add_mul]
     refine hY (aR.mpr ⟨hol,fun i u hi=>?_⟩) (aR.mpr ⟨hnl,fun i u hi=>?_⟩)
     ·have:=(List.getElem?_eq_some_iff.mp hi).1
      rw[gf,if_neg (by omega)]
      exact(aR.mp hko).2 i u hi
     ·have:=(List.getElem?_eq_some_iff.mp hi).1
      rw[gf,if_pos (by omega),show 0+n*2+i- n*2=i by omega]
      exact hi
    ·rw[h.ko]
     exact⟨_,rfl,jt (by rw[List.drop_zero,List.take_of_length_le (by rw[List.length_append];omega)]) (by rw[List.length_append];omega)⟩
   refine⟨.slc (some (s.nx,0,2)) (n+k) (n+k) false,{s with h:=s.h.put s.nx (.cells T ((n+k)*2+cf N)),nx:=s.nx+1},?_,_,_,T,rfl,(Mod.refl _ s).new _,rfl, .inr ⟨rfl,rfl,bu,by rw[hres];exact g2⟩⟩
   simp only[cL,bF,nN,hsrc,rq,hk,hon,h1,h2,kW,show Nat.beq 2 2=true from rfl,fp h.hb,g1,qX,gM]
 refine aZ hO zv rfl ?_
 unfold aB aB aB aB
 repeat(first|refine uS ?_ |refine aa rfl ?_ |refine ad (by simp(disch:=omega) only[uB,uT,sl0,dk];exact rfl) ?_)
 refine uJ [0,1,2,7,16] ?_
 refine ae rfl rfl (fun hc=>?_) (fun hc=>?_)
 ·cases hc
 ·repeat(first|refine uS ?_ |refine aa rfl ?_ |refine ad (by simp(disch:=omega) only[uB,uT,di];exact rfl) ?_)
  refine uJ [0,1,2,7,8,22] ?_
  refine ae rfl rfl (fun hc=>?_) (fun hc=>?_)
  ·repeat(first|refine uS ?_ |refine aa rfl ?_ |refine ad (by simp(disch:=omega) only[uB,uT,gd bF (.inl rfl),ea];exact rfl) ?_)
   refine ai rfl ?_
   exact hq
  ·cases hc
theorem K0 (hO:O 89=none)(hV:O 95=some ml){s:St}{b o n k m i c N ky:Nat}{t ty:Tr AV}{old new:List AV}{xy:Bool}{cy:Nat}(h:oP 2 s b o n k m i c N ky t ty old new):
  Ca X O (.fn 89) [.slc (some (b,o,2)) n m true, .int .i64 (i:Int), .slc (some (c,0,2)) k cy xy] s (vN 2 b o n k m N (old.take (i*2)++new++old.drop (i*2)) s):=by
 have hi:=h.i0
 by_cases e:i=n
 ·subst e;exact IX hO h
 ·by_cases hm:n+k≤m
  ·exact FN hO hV h (by omega) hm
  ·exact EO hO h (by omega) (by omega)
end
end Go.Proofs.Ytofohkdkpbigiaa
end
