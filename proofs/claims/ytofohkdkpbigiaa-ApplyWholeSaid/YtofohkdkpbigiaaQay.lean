/-
  A part of the texts.
-/
import GoSem.Extern.Table
import Derived.Test.YtofohkdkpbigiaaQax
section
namespace Go.Proofs.Ytofohkdkpbigiaa
open Go.Am
set_option maxRecDepth 10000
set_option maxHeartbeats 1000000
set_option linter.unusedSimpArgs false
section
variable {O:bj}
theorem KY:X.fns.get 14=some Try.f14:=by kernel_rfl
structure EF (O:bj):Prop where
 wri:DWO O
 may:yt O
 cmay:O 13=none
 sl:AK O
 put:O 14=none
theorem HH:bz X 85 []=some (.pure (.agg [.slc none 0 0 true])):=by
 simp only[bz,Ds,Ed,cS,cQ,cL,dc,AV.cells,dB,fB]
theorem yu (ho:EF O){s:St}(htd:Tidy s){c:Cmd}{z:CL}(hc:sY s c z)(hl:aM (cI c)≤1000000):
  Ca X O (.fn 14) [.agg (bY c z)] s fun r=>∃s',r= .ret (.tup [.str (fw c).1, .int .i64 (fw c).2]) s'∧Am.Mod No s s':=by
 obtain⟨hr1,hr2⟩:=BN (c:=c)
 obtain⟨Z,hZ,hZlt⟩:=hc.r
 have hok:=hc.ok
 have hlen:aM (cI c)=aM (bJ c)+aM (dg c)+aM (eZ c)+aM (jq c):=by simp only[cI,aA]
 have hlk:aM (bJ c)=40+aM (c.keys.map cU).flatten:=by rw[bJ,aA,eW];rfl
 have hlr:aM (dg c)=8+aM (c.ranges.map eI).flatten:=by rw[dg,bL];rfl
 have hlw:aM (eZ c)=8+aM (c.writes.map dL).flatten:=by rw[eZ,bL];rfl
 have hle:aM (jq c)=24+(8+c.text.len)+(8+aM (dQ c.rows)):=by rw[jq,aA,aA,aA,eW,bg];rfl
 have hlx:aM (dQ c.rows)=8+aM (c.rows.map cW).flatten:=by rw[dQ,bL];rfl
 obtain⟨vs,hs0,hzx,hall⟩:=hZ.ex
 have hvl:=hall.len
 obtain⟨ax,cx,xx,ex,_⟩:=hs0.ex
 rw[List.length_map,hvl] at ex
 obtain⟨ak,ck,xk,ek,_⟩:=hc.h.k.ex
 obtain⟨ar,cr,xr,er,_⟩:=hc.h.r.ex
 obtain⟨aw,cw,xw,ew,_⟩:=hc.h.w.ex
 rw[List.length_map] at ek er ew
 have hkl:=hc.h.kl
 have hrl:=hc.h.rl
 have hwl:=hc.h.wl
 refine bb ho.put KY rfl ?_
 unfold aD aD
 (repeat(first|refine uS ?_ |refine aa rfl ?_));refine ad (by simp(disch:=omega) only[uB,uT,bk,cX (cs:=bY c z) hc.h.qI];exact rfl) ?_;(repeat(first|refine uS ?_ |refine aa rfl ?_))
 refine eE fun s1 hn1 hm1 hb1=>?_
 have hc1:=hc.no hm1
 repeat(first|refine uS ?_ |refine aa rfl ?_ |refine ad (by simp(disch:=omega) only[uB,uT,hb1.all bZ rfl cn];exact rfl) ?_)
 refine aj (vN ho.may ho.cmay hc1.h (hZ.mod hm1 (fun _ _ h=>h)) hc.ok (by omega) (fun r hr=>by have:=hr2 r hr;omega)) ?_ ?_
 ·rintro r s2 ⟨s2',e,hm2⟩
  cases e
  have hm02:=hm1.trans hm2 (fun _ _ h=>h)
  refine uL ?_
  refine uH ?_
  refine uJ [1,12] ?_
  refine ae rfl rfl (fun hcm=>?_) (fun hcm=>?_)
  ·repeat(first|refine uS ?_ |refine aa rfl ?_ |refine ad (by simp(disch:=omega) only[uB,uT,bk];exact rfl) ?_)
   refine ai rfl ?_
   have:lv c=false:=by simpa using hcm
   exact⟨s2,by unfold fw;rw[this];rfl,hm02⟩
  ·have hmay:lv c=true:=by simpa using hcm
   (repeat(first|refine uS ?_ |refine aa rfl ?_));refine ad (by simp(disch:=omega) only[uB,uT,HH,Ij];exact rfl) ?_;(repeat(first|refine uS ?_ |refine aa rfl ?_))
   refine eE fun s3 hn3 hm3 hb3=>?_
   have hm03:=hm02.trans hm3 (fun _ _ h=>h)
   have htd3:=hm03.tidy htd
   have hc3:=hc.no hm03
   have n02:=hm02.nx
   have n12:=hm2.nx
   have hw:Wri s3 s2.nx (fun d=>d=s2.nx) bu:=⟨⟨_,hb3,Buf.nil,fun d hd=>by cases hd⟩,rfl,fun d hd=>by subst hd;omega⟩
   have h1:WS s3 (fun d=>d=s2.nx) s2.nx s3 bu:=WS.start hw htd3
   have hzh:∀d,z.has d→¬d=s2.nx:=fun d hd e=>by have:=hc.b d hd;omega
   have hzz:∀d,Z d→¬d=s2.nx:=fun d hd e=>by have:=hZlt d hd;omega
   have hb13:Bx s3 s.nx (bY c z):=(hb1.no hm2).no hm3
   have hne:¬s.nx=s2.nx:=by omega
   generalize hbw:s2.nx=b at*
   generalize hH:(fun d=>d=b)=H at*
   have hzh':∀d,z.has d→¬H d:=fun d hd=>by rw[←hH];exact hzh d hd
   have hzz':∀d,Z d→¬H d:=fun d hd=>by rw[←hH];exact hzz d hd
   have hnH:¬H s.nx:=by rw[←hH];exact hne
   have gb:∀ {s' S'},WS s3 H b s' S'→Bx s' s.nx (bY c z):=fun hx=>hb13.mod hx.m hnH
   have fin:∀ {s' S'},WS s3 H b s' S'→Am.Mod No s s':=fun hx=>hm03.trans hx.m (fun d hd e=>by rw[←hH] at e;subst e;omega)
   have gk:∀ {s' S'},WS s3 H b s' S'→aO X 36 (.ptr (some (s.nx,4))) s'=some (.old (.slc ak c.keys.length ck xk)):=fun hx=>by rw[←ek];exact(gb hx).ld (i:=4) rfl dS rfl fV
   have gr:∀ {s' S'},WS s3 H b s' S'→aO X 37 (.ptr (some (s.nx,5))) s'=some (.old (.slc ar c.ranges.length cr xr)):=fun hx=>by rw[←er];exact(gb hx).ld (i:=5) rfl eP rfl fY
   have gw:∀ {s' S'},WS s3 H b s' S'→aO X 35 (.ptr (some (s.nx,6))) s'=some (.old (.slc aw c.writes.length cw xw)):=fun hx=>by rw[←ew];exact(gb hx).ld (i:=6) rfl ct rfl fW
   have gx:∀ {s' S'},WS s3 H b s' S'→aO X 38 (.ptr (some (s.nx,12))) s'=some (.old (.slc ax c.rows.length cx xx)):=fun hx=>by rw[←ex];exact(gb hx).ld (i:=12) rfl eO rfl jt
   repeat(first|refine uS ?_ |refine aa rfl ?_ |refine ad (by simp(disch:=omega) only[uB,uT,jD,Nat.zero_add,(gb h1).ld (i:=0) rfl aN rfl ay];exact rfl) ?_)
   have j1:bu.len=0:=rfl
   refine aj (h1.qi ho.wri (n:=c.kind) (by omega)) ?_ ?_
   ·rintro r t2 ⟨t2',e2,h2⟩
    cases e2
    have j2:(bu.app [aY c.kind]).len=8:=rfl
    refine uL ?_
    refine uH ?_
    repeat(first|refine uS ?_ |refine aa rfl ?_ |refine ad (by simp(disch:=omega) only[uB,uT,gT,Nat.zero_add,(gb h2).ld (i:=1) rfl aN rfl ay];exact rfl) ?_)
    refine aj (h2.qi ho.wri (n:=c.client) (by omega)) ?_ ?_
    ·rintro r t3 ⟨t3',e3,h3⟩
     cases e3
     have j3:((bu.app [aY c.kind]).app [aY c.client]).len=16:=rfl
     refine uL ?_
     refine uH ?_
     repeat(first|refine uS ?_ |refine aa rfl ?_ |refine ad (by simp(disch:=omega) only[uB,uT,lA,Nat.zero_add,(gb h3).ld (i:=2) rfl aN rfl ay];exact rfl) ?_)
     refine aj (h3.qi ho.wri (n:=c.seq) (by omega)) ?_ ?_
     ·rintro r t4 ⟨t4',e4,h4⟩
      cases e4
      have j4:(((bu.app [aY c.kind]).app [aY c.client]).app [aY c.seq]).len=24:=rfl
      refine uL ?_
      refine uH ?_
      repeat(first|refine uS ?_ |refine aa rfl ?_ |refine ad (by simp(disch:=omega) only[uB,uT,me,Nat.zero_add,(gb h4).ld (i:=3) rfl aN rfl ay];exact rfl) ?_)
      refine aj (h4.qi ho.wri (n:=c.snap) (by omega)) ?_ ?_
      ·rintro r t5 ⟨t5',e5,h5⟩
       cases e5
       have j5:((((bu.app [aY c.kind]).app [aY c.client]).app [aY c.seq]).app [aY c.snap]).len=32:=rfl
       refine uL ?_
       refine uH ?_
       repeat(first|refine uS ?_ |refine aa rfl ?_ |refine ad (by simp(disch:=omega) only[uB,uT,lh,Nat.zero_add,gk h5];exact rfl) ?_)
       refine aj (h5.qi ho.wri (n:=(c.keys.length:Int)) (by omega)) ?_ ?_
       ·rintro r t6 ⟨t6',e6,h6⟩
        cases e6
        have j6:(((((bu.app [aY c.kind]).app [aY c.client]).app [aY c.seq]).app [aY c.snap]).app [aY (c.keys.length:Int)]).len=40:=rfl
        refine uL ?_
        refine dR ?_
        refine cJ ?_
        generalize hT1:(((((bu.app [aY c.kind]).app [aY c.client]).app [aY c.seq]).app [aY c.snap]).app [aY (c.keys.length:Int)])=T1 at*
        have hT1l:T1.len=40:=j6
        refine fP (fun L s'=>L=[(1, .ptr (some (s.nx,0))),(4, .ptr (some (b,0)))]∧WS s3 H b s' (T1.app (c.keys.map cU).flatten)) ?_ ?_
        ·refine uG ?_
         let I:Nat→Sl→St→Prop:=fun i L s'=>WS s3 H b s' (T1.app ((c.keys.take i).map cU).flatten)∧i≤c.keys.length∧L=[(1, .ptr (some (s.nx,0))),(4, .ptr (some (b,0))),(5, .int .i64 (i:Int))]
         refine WL.less (M:=[(1, .ptr (some (s.nx,0))),(4, .ptr (some (b,0))),(5, .int .i64 ((0:Nat):Int))]) ?_ rfl
         refine aV I (fun i=>c.keys.length- i) ?_ c.keys.length 0 _ _ (by simp) ⟨h6,Nat.zero_le _,rfl⟩
         rintro i L u1 ⟨g1,hi,rfl⟩
         repeat(first|refine uS ?_ |refine aa rfl ?_ |refine ad (by simp(disch:=omega) only[uB,uT,lh,Nat.zero_add,gk g1];exact rfl) ?_)
         refine uJ [1,4,5,40] ?_
         refine ae rfl rfl (fun hc2=>?_) (fun hc2=>?_)
         ·simp at hc2
          obtain⟨q,hq⟩:∃q,c.keys[i]? =some q:=⟨_,List.getElem?_eq_getElem (by omega)⟩
          obtain⟨b5,off5,c5,x5,t5,n5,e5,_,k2,k3⟩:=(hc3.h.k.mod g1.m fun d hd=>hzh' d (.inl hd)).at (i:=i) (r:=kr q) (by simp[hq])
          have hlt:=da cU c.keys i hq
          have hft:=fH cU c.keys i hq
          have hlS:(T1.app ((c.keys.take i).map cU).flatten).len=T1.len+aM ((c.keys.take i).map cU).flatten:=bf _ _
          generalize hTT:T1.app ((c.keys.take i).map cU).flatten=TT at*
          rw[List.length_map] at e5
          rw[ek] at e5
          cases e5
          have k4:=eS k3
          have hqo:=hok.keys q (List.mem_of_getElem? hq)
          rw[bg] at hlt
          repeat(first|refine uS ?_ |refine aa rfl ?_ |refine ad (by simp(disch:=omega) only[uB,uT,lh,Nat.zero_add,gk g1,aQ dS aF,ah aE rfl aF k2 k4,Int.toNat_natCast];exact rfl) ?_)
          refine aj (g1.xb ho.wri hqo (by omega)) ?_ ?_
          ·rintro r u2 ⟨u2',e2,g2⟩
           cases e2
           refine uL ?_
           refine uG ?_
           refine aH (i+1) [(1, .ptr (some (s.nx,0))),(4, .ptr (some (b,0))),(5, .int .i64 ((i+1:Nat):Int))] ⟨?_,by omega,rfl⟩ (by show c.keys.length- (i+1)<c.keys.length- i;omega) (by simp[aI,az])
           rw[hft,bw,hTT]
           exact g2
          ·rintro r s' ⟨_,e2,_⟩
           cases e2
         ·simp at hc2
          have:i=c.keys.length:=by omega
          subst this
          rw[List.take_length] at g1
          refine uG ?_
          exact cG [(1, .ptr (some (s.nx,0))),(4, .ptr (some (b,0)))] ⟨rfl,g1⟩ (by simp[aI,az])
        ·rintro L u3 ⟨rfl,h3⟩
         have hS3:T1.app (c.keys.map cU).flatten=bu.app (bJ c):=by rw[bJ,bw,←hT1];rfl
         rw[hS3] at h3
         have hl3:(bu.app (bJ c)).len=aM (bJ c):=by rw[bf];exact Nat.zero_add _
         generalize hT3:bu.app (bJ c)=T3 at*
         repeat(first|refine uS ?_ |refine aa rfl ?_ |refine ad (by simp(disch:=omega) only[uB,uT,jY,Nat.zero_add,gr h3];exact rfl) ?_)
         refine aj (h3.qi ho.wri (n:=(c.ranges.length:Int)) (by omega)) ?_ ?_
         ·rintro r u4 ⟨u4',e4,h4⟩
          cases e4
          refine uL ?_
          refine dR ?_
          refine cJ ?_
          have hl4:(T3.app [aY (c.ranges.length:Int)]).len=aM (bJ c)+8:=by rw[bf,hl3];rfl
          generalize hT4:T3.app [aY (c.ranges.length:Int)]=T4 at*
          refine fP (fun L s'=>L=[(1, .ptr (some (s.nx,0))),(4, .ptr (some (b,0)))]∧WS s3 H b s' (T4.app (c.ranges.map eI).flatten)) ?_ ?_
          ·refine uG ?_
           let I:Nat→Sl→St→Prop:=fun i L s'=>WS s3 H b s' (T4.app ((c.ranges.take i).map eI).flatten)∧i≤c.ranges.length∧L=[(1, .ptr (some (s.nx,0))),(4, .ptr (some (b,0))),(6, .int .i64 (i:Int))]
           refine WL.less (M:=[(1, .ptr (some (s.nx,0))),(4, .ptr (some (b,0))),(6, .int .i64 ((0:Nat):Int))]) ?_ rfl
           refine aV I (fun i=>c.ranges.length- i) ?_ c.ranges.length 0 _ _ (by simp) ⟨h4,Nat.zero_le _,rfl⟩
           rintro i L u1 ⟨g1,hi,rfl⟩
           repeat(first|refine uS ?_ |refine aa rfl ?_ |refine ad (by simp(disch:=omega) only[uB,uT,jY,Nat.zero_add,gr g1];exact rfl) ?_)
           refine uJ [1,4,6,59] ?_
           refine ae rfl rfl (fun hc2=>?_) (fun hc2=>?_)
           ·simp at hc2
            obtain⟨q,hq⟩:∃q,c.ranges[i]? =some q:=⟨_,List.getElem?_eq_getElem (by omega)⟩
            obtain⟨b5,off5,c5,x5,t5,n5,e5,_,k2,k3⟩:=(hc3.h.r.mod g1.m fun d hd=>hzh' d (.inr (.inl hd))).at (i:=i) (r:=pr q) (by simp[hq])
            have hlt:=da eI c.ranges i hq
            have hft:=fH eI c.ranges i hq
            have hlS:(T4.app ((c.ranges.take i).map eI).flatten).len=T4.len+aM ((c.ranges.take i).map eI).flatten:=bf _ _
            generalize hTT:T4.app ((c.ranges.take i).map eI).flatten=TT at*
            rw[List.length_map] at e5
            rw[er] at e5
            cases e5
            obtain⟨hq1,hq2⟩:=hok.ranges q (List.mem_of_getElem? hq)
            have hlq:aM (eI q)=8+q.1.len+(8+q.2.len):=by rw[eI,aA,bg,bg]
            have p1:=ah (X:=X) aE rfl aF k2 (by simpa using(aR.mp k3).2 0 _ rfl)
            repeat(first|refine uS ?_ |refine aa rfl ?_ |refine ad (by simp(disch:=omega) only[uB,uT,jY,tW,Nat.add_zero,Nat.zero_add,gr g1,aQ eP fQ,p1,Int.toNat_natCast];exact rfl) ?_)
            refine aj (g1.xb ho.wri hq1 (by omega)) ?_ ?_
            ·rintro r u2 ⟨u2',e2,g2⟩
             cases e2
             refine uL ?_
             refine uH ?_
             have l2:(TT.app (cU q.1)).len=TT.len+(8+q.1.len):=by rw[bf,bg]
             obtain⟨b6,off6,c6,x6,t6,n6,e6,_,j2,j3⟩:=(hc3.h.r.mod g2.m fun d hd=>hzh' d (.inr (.inl hd))).at (i:=i) (r:=pr q) (by simp[hq])
             rw[List.length_map] at e6
             rw[er] at e6
             cases e6
             have p2:=ah (X:=X) aE rfl aF j2 ((aR.mp j3).2 1 _ rfl)
             repeat(first|refine uS ?_ |refine aa rfl ?_ |refine ad (by simp(disch:=omega) only[uB,uT,jY,tR,Nat.zero_add,gr g2,aQ eP fQ,p2,Int.toNat_natCast];exact rfl) ?_)
             refine aj (g2.xb ho.wri hq2 (by omega)) ?_ ?_
             ·rintro r u5 ⟨u5',e7,g5⟩
              cases e7
              refine uL ?_
              refine uG ?_
              refine aH (i+1) [(1, .ptr (some (s.nx,0))),(4, .ptr (some (b,0))),(6, .int .i64 ((i+1:Nat):Int))] ⟨?_,by omega,rfl⟩ (by show c.ranges.length- (i+1)<c.ranges.length- i;omega) (by simp[aI,az])
              rw[hft,bw,hTT,eI,bw]
              exact g5
             ·rintro r s' ⟨_,e2,_⟩
              cases e2
            ·rintro r s' ⟨_,e2,_⟩
             cases e2
           ·simp at hc2
            have:i=c.ranges.length:=by omega
            subst this
            rw[List.take_length] at g1
            refine uG ?_
            exact cG [(1, .ptr (some (s.nx,0))),(4, .ptr (some (b,0)))] ⟨rfl,g1⟩ (by simp[aI,az])
          ·rintro L u5 ⟨rfl,h5⟩
           have hS5:T4.app (c.ranges.map eI).flatten=bu.app (bJ c++dg c):=by rw[bw,hT3,←hT4];rfl
           rw[hS5] at h5
           have hl5:(bu.app (bJ c++dg c)).len=aM (bJ c)+aM (dg c):=by rw[bf,aA];exact Nat.zero_add _
           generalize hT5:bu.app (bJ c++dg c)=T5 at*
           repeat(first|refine uS ?_ |refine aa rfl ?_ |refine ad (by simp(disch:=omega) only[uB,uT,gS,Nat.zero_add,gw h5];exact rfl) ?_)
           refine aj (h5.qi ho.wri (n:=(c.writes.length:Int)) (by omega)) ?_ ?_
           ·rintro r u6 ⟨u6',e6,h6'⟩
            cases e6
            refine uL ?_
            refine dR ?_
            refine cJ ?_
            have hl6:(T5.app [aY (c.writes.length:Int)]).len=aM (bJ c)+aM (dg c)+8:=by rw[bf,hl5];rfl
            generalize hT6:T5.app [aY (c.writes.length:Int)]=T6 at*
            refine fP (fun L s'=>L=[(1, .ptr (some (s.nx,0))),(4, .ptr (some (b,0)))]∧WS s3 H b s' (T6.app (c.writes.map dL).flatten)) ?_ ?_
            ·refine uG ?_
             let I:Nat→Sl→St→Prop:=fun i L s'=>WS s3 H b s' (T6.app ((c.writes.take i).map dL).flatten)∧i≤c.writes.length∧L=[(1, .ptr (some (s.nx,0))),(4, .ptr (some (b,0))),(7, .int .i64 (i:Int))]
             refine WL.less (M:=[(1, .ptr (some (s.nx,0))),(4, .ptr (some (b,0))),(7, .int .i64 ((0:Nat):Int))]) ?_ rfl
             refine aV I (fun i=>c.writes.length- i) ?_ c.writes.length 0 _ _ (by simp) ⟨h6',Nat.zero_le _,rfl⟩
             rintro i L u1 ⟨g1,hi,rfl⟩
             repeat(first|refine uS ?_ |refine aa rfl ?_ |refine ad (by simp(disch:=omega) only[uB,uT,gS,Nat.zero_add,gw g1];exact rfl) ?_)
             refine uJ [1,4,7,87] ?_
             refine ae rfl rfl (fun hc2=>?_) (fun hc2=>?_)
             ·simp at hc2
              obtain⟨q,hq⟩:∃q,c.writes[i]? =some q:=⟨_,List.getElem?_eq_getElem (by omega)⟩
              have hat:∀ {s' S'},WS s3 H b s' S'→∃b5 off5 t5 n5,aw=some (b5,off5,3)∧s'.h.get b5=some (.cells t5 n5)∧ldL t5 (off5+i*3) 3=some (wrt q):=fun hx=>by
               obtain⟨b5,off5,c5,x5,t5,n5,e5,_,k2,k3⟩:=(hc3.h.w.mod hx.m fun d hd=>hzh' d (.inr (.inr hd))).at (i:=i) (r:=wrt q) (by simp[hq])
               rw[List.length_map] at e5
               rw[ew] at e5
               cases e5
               exact⟨b5,off5,t5,n5,rfl,k2,k3⟩
              obtain⟨b5,off5,t5,n5,rfl,k2,k3⟩:=hat g1
              have hlt:=da dL c.writes i hq
              have hft:=fH dL c.writes i hq
              have hlS:(T6.app ((c.writes.take i).map dL).flatten).len=T6.len+aM ((c.writes.take i).map dL).flatten:=bf _ _
              generalize hTT:T6.app ((c.writes.take i).map dL).flatten=TT at*
              obtain⟨hq1,hq2⟩:=hok.writes q (List.mem_of_getElem? hq)
              have hlq:aM (dL q)=8+q.1.len+(8+q.2.1.len)+8:=by rw[dL,aA,aA,bg,bg];rfl
              have p1:=ah (X:=X) aE rfl aF k2 (by simpa using(aR.mp k3).2 0 _ rfl)
              repeat(first|refine uS ?_ |refine aa rfl ?_ |refine ad (by simp(disch:=omega) only[uB,uT,gS,iD,Nat.add_zero,Nat.zero_add,gw g1,aQ ct bT,p1,Int.toNat_natCast];exact rfl) ?_)
              refine aj (g1.xb ho.wri hq1 (by omega)) ?_ ?_
              ·rintro r u2 ⟨u2',e2,g2⟩
               cases e2
               refine uL ?_
               refine uH ?_
               have l2:(TT.app (cU q.1)).len=TT.len+(8+q.1.len):=by rw[bf,bg]
               obtain⟨b6,off6,t6,n6,e6,j2,j3⟩:=hat g2
               cases e6
               have p2:=ah (X:=X) aE rfl aF j2 ((aR.mp j3).2 1 _ rfl)
               repeat(first|refine uS ?_ |refine aa rfl ?_ |refine ad (by simp(disch:=omega) only[uB,uT,gS,kj,Nat.zero_add,gw g2,aQ ct bT,p2,Int.toNat_natCast];exact rfl) ?_)
               refine aj (g2.xb ho.wri hq2 (by omega)) ?_ ?_
               ·rintro r u5 ⟨u5',e7,g5⟩
                cases e7
                refine uL ?_
                refine uH ?_
                have l5:((TT.app (cU q.1)).app (cU q.2.1)).len=TT.len+(8+q.1.len)+(8+q.2.1.len):=by rw[bf,l2,bg]
                obtain⟨b7,off7,t7,n7,e7,i2,i3⟩:=hat g5
                cases e7
                have p3:=ah (X:=X) mg rfl eC i2 ((aR.mp i3).2 2 _ rfl)
                repeat(first|refine uS ?_ |refine aa rfl ?_ |refine ad (by simp(disch:=omega) only[uB,uT,gS,j7,Nat.zero_add,gw g5,aQ ct bT,p3,Int.toNat_natCast];exact rfl) ?_)
                refine aj (g5.ON ho.wri (v:=q.2.2) (by omega)) ?_ ?_
                ·rintro r u6 ⟨u6',e8,g6⟩
                 cases e8
                 refine uL ?_
                 refine uG ?_
                 refine aH (i+1) [(1, .ptr (some (s.nx,0))),(4, .ptr (some (b,0))),(7, .int .i64 ((i+1:Nat):Int))] ⟨?_,by omega,rfl⟩ (by show c.writes.length- (i+1)<c.writes.length- i;omega) (by simp[aI,az])
                 rw[hft,bw,hTT,dL,bw,bw]
                 exact g6
                ·rintro r s' ⟨_,e2,_⟩
                 cases e2
               ·rintro r s' ⟨_,e2,_⟩
                cases e2
              ·rintro r s' ⟨_,e2,_⟩
               cases e2
             ·simp at hc2
              have:i=c.writes.length:=by omega
              subst this
              rw[List.take_length] at g1
              refine uG ?_
              exact cG [(1, .ptr (some (s.nx,0))),(4, .ptr (some (b,0)))] ⟨rfl,g1⟩ (by simp[aI,az])
            ·rintro L u7 ⟨rfl,h7⟩
             have hS7:T6.app (c.writes.map dL).flatten=bu.app ((bJ c++dg c)++eZ c):=by rw[bw,hT5,←hT6];rfl
             rw[hS7] at h7
             have hl7:(bu.app ((bJ c++dg c)++eZ c)).len=aM (bJ c)+aM (dg c)+aM (eZ c):=by rw[bf,aA,aA];exact Nat.zero_add _
             generalize hT7:bu.app ((bJ c++dg c)++eZ c)=T7 at*
             repeat(first|refine uS ?_ |refine aa rfl ?_ |refine ad (by simp(disch:=omega) only[uB,uT,mA,Nat.zero_add,(gb h7).ld (i:=7) rfl aN rfl ay];exact rfl) ?_)
             refine aj (h7.qi ho.wri (n:=c.dl) (by omega)) ?_ ?_
             ·rintro r v20 ⟨v20',e20,h20⟩
              cases e20
              refine uL ?_
              refine uH ?_
              have l20:(T7.app [aY c.dl]).len=T7.len+8:=by rw[bf];rfl
              generalize hS20:(T7.app [aY c.dl])=S20 at*
              repeat(first|refine uS ?_ |refine aa rfl ?_ |refine ad (by simp(disch:=omega) only[uB,uT,nC,Nat.zero_add,(gb h20).ld (i:=8) rfl aN rfl ay];exact rfl) ?_)
              refine aj (h20.qi ho.wri (n:=c.after) (by omega)) ?_ ?_
              ·rintro r v21 ⟨v21',e21,h21⟩
               cases e21
               refine uL ?_
               refine uH ?_
               have l21:(S20.app [aY c.after]).len=S20.len+8:=by rw[bf];rfl
               generalize hS21:(S20.app [aY c.after])=S21 at*
               repeat(first|refine uS ?_ |refine aa rfl ?_ |refine ad (by simp(disch:=omega) only[uB,uT,nX,Nat.zero_add,(gb h21).ld (i:=9) rfl aN rfl ay];exact rfl) ?_)
               refine aj (h21.qi ho.wri (n:=c.held) (by omega)) ?_ ?_
               ·rintro r v22 ⟨v22',e22,h22⟩
                cases e22
                refine uL ?_
                refine uH ?_
                have l22:(S21.app [aY c.held]).len=S21.len+8:=by rw[bf];rfl
                generalize hS22:(S21.app [aY c.held])=S22 at*
                repeat(first|refine uS ?_ |refine aa rfl ?_ |refine ad (by simp(disch:=omega) only[uB,uT,ie,Nat.zero_add,(gb h22).ld (i:=10) rfl aE rfl aF];exact rfl) ?_)
                refine aj (h22.xb ho.wri hok.text (by omega)) ?_ ?_
                ·rintro r v23 ⟨v23',e23,h23⟩
                 cases e23
                 refine uL ?_
                 refine uH ?_
                 have l23:(S22.app (cU c.text)).len=S22.len+(8+c.text.len):=by rw[bf,bg]
                 generalize hS23:(S22.app (cU c.text))=S23 at*
                 repeat(first|refine uS ?_ |refine aa rfl ?_ |refine ad (by simp(disch:=omega) only[uB,uT,iV,Nat.zero_add,(gb h23).ld (i:=11) rfl aN rfl ay];exact rfl) ?_)
                 refine aj (h23.qi ho.wri (n:=c.code) (by omega)) ?_ ?_
                 ·rintro r v24 ⟨v24',e24,h24⟩
                  cases e24
                  refine uL ?_
                  refine uH ?_
                  have l24:(S23.app [aY c.code]).len=S23.len+8:=by rw[bf];rfl
                  generalize hS24:(S23.app [aY c.code])=S24 at*
                  repeat(first|refine uS ?_ |refine aa rfl ?_ |refine ad (by simp(disch:=omega) only[uB,uT,dI,Nat.zero_add,gx h24];exact rfl) ?_)
                  refine aj (h24.qi ho.wri (n:=(c.rows.length:Int)) (by omega)) ?_ ?_
                  ·rintro r v25 ⟨v25',e25,h25⟩
                   cases e25
                   refine uL ?_
                   have l25:(S24.app [aY (c.rows.length:Int)]).len=S24.len+8:=by rw[bf];rfl
                   generalize hS25:(S24.app [aY (c.rows.length:Int)])=S25 at*
                   refine dR ?_
                   refine cJ ?_
                   refine fP (fun L s'=>L=[(1, .ptr (some (s.nx,0))),(4, .ptr (some (b,0)))]∧WS s3 H b s' (S25.app (c.rows.map cW).flatten)) ?_ ?_
                   ·refine uG ?_
                    let I:Nat→Sl→St→Prop:=fun i L s'=>WS s3 H b s' (S25.app ((c.rows.take i).map cW).flatten)∧i≤c.rows.length∧L=[(1, .ptr (some (s.nx,0))),(4, .ptr (some (b,0))),(8, .int .i64 (i:Int))]
                    refine WL.less (M:=[(1, .ptr (some (s.nx,0))),(4, .ptr (some (b,0))),(8, .int .i64 ((0:Nat):Int))]) ?_ rfl
                    refine aV I (fun i=>c.rows.length- i) ?_ c.rows.length 0 _ _ (by simp) ⟨h25,Nat.zero_le _,rfl⟩
                    rintro i L u1 ⟨g1,hi,rfl⟩
                    repeat(first|refine uS ?_ |refine aa rfl ?_ |refine ad (by simp(disch:=omega) only[uB,uT,dI,Nat.zero_add,gx g1];exact rfl) ?_)
                    refine uJ [1,4,8,143] ?_
                    refine ae rfl rfl (fun hc2=>?_) (fun hc2=>?_)
                    ·simp at hc2
                     obtain⟨q,hq⟩:∃q,c.rows[i]? =some q:=⟨_,List.getElem?_eq_getElem (by omega)⟩
                     obtain⟨w,hw1,hws,hwz⟩:=pV hall hq
                     obtain⟨aq,cq,xq,rfl,_⟩:=hws.ex
                     rw[List.length_map] at hws hwz hw1
                     have row:∀ {s' S'},WS s3 H b s' S'→∃b5 off5,ax=some (b5,off5,1)∧aO X 74 (.ptr (some (b5,off5+i))) s'=some (.old (.slc aq q.length cq xq)):=fun hx=>by
                      obtain⟨b5,off5,c5,x5,t5,n5,e5,_,k2,k3⟩:=((hs0.mod hm03 (fun _ _ h=>h)).mod hx.m (fun d hd=>hzz' d (hzx d hd))).at (i:=i) (r:=[.slc aq q.length cq xq]) (by rw[List.getElem?_map,hw1];rfl)
                      rw[List.length_map,hvl,ex] at e5
                      cases e5
                      have k4:=eS k3
                      rw[Nat.mul_one] at k4
                      exact⟨b5,off5,rfl,ah iA rfl ey k2 k4⟩
                     obtain⟨b5,off5,rfl,lrow1⟩:=row g1
                     have lrow:∀ {s' S'},WS s3 H b s' S'→aO X 74 (.ptr (some (b5,off5+i))) s'=some (.old (.slc aq q.length cq xq)):=fun hx=>by
                      obtain⟨b6,off6,h8,h9⟩:=row hx
                      cases h8;exact h9
                     have hqm:=hok.rows q (List.mem_of_getElem? hq)
                     have hql:q.length≤aM (cI c):=hr2 q (List.mem_of_getElem? hq)
                     have hlt:=da cW c.rows i hq
                     have hft:=fH cW c.rows i hq
                     have hlq:aM (cW q)=8+aM (q.map ib).flatten:=by rw[cW,bL];rfl
                     have hlS:(S25.app ((c.rows.take i).map cW).flatten).len=S25.len+aM ((c.rows.take i).map cW).flatten:=bf _ _
                     generalize hTT:S25.app ((c.rows.take i).map cW).flatten=TT at*
                     repeat(first|refine uS ?_ |refine aa rfl ?_ |refine ad (by simp(disch:=omega) only[uB,uT,dI,Nat.zero_add,gx g1,aQ eO ey,Nat.mul_one,lrow g1,Int.toNat_natCast];exact rfl) ?_)
                     refine aj (g1.qi ho.wri (n:=(q.length:Int)) (by omega)) ?_ ?_
                     ·rintro r u2 ⟨u2',e2,g2⟩
                      cases e2
                      refine uL ?_
                      refine uG ?_
                      let J:Nat→Sl→St→Prop:=fun k L s'=>WS s3 H b s' ((TT.app [aY (q.length:Int)]).app ((q.take k).map ib).flatten)∧k≤q.length∧L=[(1, .ptr (some (s.nx,0))),(4, .ptr (some (b,0))),(8, .int .i64 (i:Int)),(9, .int .i64 (k:Int))]
                      refine WL.less (M:=[(1, .ptr (some (s.nx,0))),(4, .ptr (some (b,0))),(8, .int .i64 (i:Int)),(9, .int .i64 ((0:Nat):Int))]) ?_ rfl
                      refine aV J (fun k=>q.length- k) ?_ q.length 0 _ _ (by simp) ⟨g2,Nat.zero_le _,rfl⟩
                      rintro k L u4 ⟨g4,hk,rfl⟩
                      repeat(first|refine uS ?_ |refine aa rfl ?_ |refine ad (by simp(disch:=omega) only[uB,uT,dI,Nat.zero_add,gx g4,aQ eO ey,Nat.mul_one,lrow g4,Int.toNat_natCast];exact rfl) ?_)
                      refine uJ [1,4,8,9,161] ?_
                      refine ae rfl rfl (fun hc4=>?_) (fun hc4=>?_)
                      ·simp at hc4
                       obtain⟨v,hv⟩:∃v,q[k]? =some v:=⟨_,List.getElem?_eq_getElem (by omega)⟩
                       obtain⟨b6,off6,c6,x6,t6,n6,e6,_,j2,j3⟩:=((hws.mod hm03 (fun _ _ h=>h)).mod g4.m fun d hd=>hzz' d (hwz d hd)).at (i:=k) (r:=vl v) (by rw[List.getElem?_map,hv];rfl)
                       rw[List.length_map] at e6
                       cases e6
                       have hvok:=hqm v (List.mem_of_getElem? hv)
                       have hlt3:=da ib q k hv
                       have hft3:=fH ib q k hv
                       have hS4:((TT.app [aY (q.length:Int)]).app ((q.take k).map ib).flatten).len=TT.len+8+aM ((q.take k).map ib).flatten:=by rw[bf,bf];rfl
                       generalize hVV:(TT.app [aY (q.length:Int)]).app ((q.take k).map ib).flatten=VV at*
                       repeat(first|refine uS ?_ |refine aa rfl ?_ |refine ad (by simp(disch:=omega) only[uB,uT,dI,Nat.zero_add,gx g4,aQ eO ey,Nat.mul_one,lrow g4,Int.toNat_natCast,aQ iA dH,cE fL rfl dH j2 j3];exact rfl) ?_)
                       refine aj (Ax ho.wri g4 hvok (by omega)) ?_ ?_
                       ·rintro r u6 ⟨u6',e8,g6⟩
                        cases e8
                        refine uL ?_
                        refine uG ?_
                        refine aH (k+1) [(1, .ptr (some (s.nx,0))),(4, .ptr (some (b,0))),(8, .int .i64 (i:Int)),(9, .int .i64 ((k+1:Nat):Int))] ⟨?_,by omega,rfl⟩ (by show q.length- (k+1)<q.length- k;omega) (by simp[aI,az])
                        rw[hft3,bw,hVV]
                        exact g6
                       ·rintro r s' ⟨_,e2,_⟩
                        cases e2
                      ·simp at hc4
                       have:k=q.length:=by omega
                       subst this
                       rw[List.take_length] at g4
                       refine uG ?_
                       refine aH (i+1) [(1, .ptr (some (s.nx,0))),(4, .ptr (some (b,0))),(8, .int .i64 ((i+1:Nat):Int))] ⟨?_,by omega,rfl⟩ (by show c.rows.length- (i+1)<c.rows.length- i;omega) (by simp[aI,az])
                       rw[hft,bw,hTT]
                       exact g4
                     ·rintro r s' ⟨_,e2,_⟩
                      cases e2
                    ·simp at hc2
                     have:i=c.rows.length:=by omega
                     subst this
                     rw[List.take_length] at g1
                     refine uG ?_
                     exact cG [(1, .ptr (some (s.nx,0))),(4, .ptr (some (b,0)))] ⟨rfl,g1⟩ (by simp[aI,az])
                   ·rintro L u9 ⟨rfl,h9⟩
                    have hS9:S25.app (c.rows.map cW).flatten=bu.app (cI c):=by
                     rw[cI,bw,hT7,←hS25,←hS24,←hS23,←hS22,←hS21,←hS20,jq];rfl
                    rw[hS9] at h9
                    have henc:(bu.app (cI c)).len=aM (cI c):=by rw[bf];exact Nat.zero_add _
                    have henc2:qm c=bu.app (cI c):=rfl
                    rw[←henc2] at h9 henc
                    generalize hee:qm c=EE at*
                    obtain⟨H9,w9,_⟩:=h9.w
                    obtain⟨y9,k9,b9,_⟩:=w9.ex
                    obtain⟨a9,c9,x9,e9⟩:=b9.slc
                    have hconv:=b9.str (X:=X) cM aE jB
                    rw[e9] at k9 hconv
                    have hsl:=nL EE
                    repeat(first|refine uS ?_ |refine aa rfl ?_ |refine ad (by simp(disch:=omega) only[uB,uT,bN,qw,Nat.zero_add,k9.ld (i:=0) rfl cM rfl cQ];exact rfl) ?_)
                    refine uJ [1,4,179] ?_
                    refine ae rfl rfl (fun hc2=>?_) (fun hc2=>?_)
                    ·repeat(first|refine uS ?_ |refine aa rfl ?_ |refine ad (by simp(disch:=omega) only[uB,uT,bk];exact rfl) ?_)
                     refine ai rfl ?_
                     have:¬(jh (qm c)).len≤20000:=by
                      simp at hc2
                      rw[hee,hsl];omega
                     exact⟨_,by unfold fw;rw[if_pos hmay,if_neg this];rfl,fin h9⟩
                    ·have:(jh (qm c)).len≤20000:=by
                      simp at hc2
                      rw[hee,hsl];omega
                     repeat(first|refine uS ?_ |refine aa rfl ?_ |refine ad (by simp(disch:=omega) only[uB,uT,bN,qw,Nat.zero_add,k9.ld (i:=0) rfl cM rfl cQ,hconv];exact rfl) ?_)
                     refine aj (Cx ho.sl (t:=EE) (by omega)) ?_ ?_
                     ·rintro r s5 ⟨s5',e,hm5⟩
                      cases e
                      refine uL ?_
                      refine uG ?_
                      refine ai rfl ?_
                      exact⟨_,by unfold fw;rw[if_pos hmay,if_pos this,hee];rfl,(fin h9).trans hm5 (fun _ _ h=>h)⟩
                     ·rintro r s' ⟨_,e,_⟩
                      cases e
                  ·rintro r s' ⟨_,e2,_⟩
                   cases e2
                 ·rintro r s' ⟨_,e2,_⟩
                  cases e2
                ·rintro r s' ⟨_,e2,_⟩
                 cases e2
               ·rintro r s' ⟨_,e2,_⟩
                cases e2
              ·rintro r s' ⟨_,e2,_⟩
               cases e2
             ·rintro r s' ⟨_,e2,_⟩
              cases e2
           ·rintro r s' ⟨_,e2,_⟩
            cases e2
         ·rintro r s' ⟨_,e2,_⟩
          cases e2
       ·rintro r s' ⟨_,e2,_⟩
        cases e2
      ·rintro r s' ⟨_,e2,_⟩
       cases e2
     ·rintro r s' ⟨_,e2,_⟩
      cases e2
    ·rintro r s' ⟨_,e2,_⟩
     cases e2
   ·rintro r s' ⟨_,e2,_⟩
    cases e2
 ·rintro r s' ⟨_,e,_⟩
  cases e
end
end Go.Proofs.Ytofohkdkpbigiaa
end
section
namespace Go.Proofs.Ytofohkdkpbigiaa
open Go.Am
set_option maxRecDepth 10000
set_option maxHeartbeats 1000000
set_option linter.unusedSimpArgs false
def ap:List Str→Str→Str
 |[],R=>R
 |a::l,R=>a.cat (ap l R)
theorem lK (l m:List Str)(R:Str):ap (l++m) R=ap l (ap m R):=by
 induction l with
 |nil=>rfl
 |cons a l ih=>show a.cat (ap (l++m) R)=a.cat (ap l (ap m R));rw[ih]
theorem Gw:∀ (l:List Str) (S:Str),S.app l=S.cat (ap l bu)
 |[],S=>(se S).symm
 |a::l,S=>by
  show(S.cat a).app l=S.cat (a.cat (ap l bu))
  rw[Gw l,tm]
theorem uY (l:List Str):bu.app l=ap l bu:=by rw[Gw,K9]
theorem ma:∀ (l:List Str) (R:Str),(ap l R).len=aM l+R.len
 |[],R=>by rw[Ja];exact(Nat.zero_add _).symm
 |a::l,R=>by show a.len+(ap l R).len=_;rw[ma l,bL,Nat.add_assoc]
def okP (l:List Str):Prop:=∀a∈l,a.ok
theorem vd:okP []:=fun a h=>by cases h
theorem et {a:Str}{l:List Str}(h:a.ok)(h':okP l):okP (a::l):=fun b hb=>by
 rcases List.mem_cons.mp hb with rfl|hb
 ·exact h
 ·exact h' b hb
theorem eo {l m:List Str}(h:okP l)(h':okP m):okP (l++m):=fun b hb=>by
 rcases List.mem_append.mp hb with hb|hb
 ·exact h b hb
 ·exact h' b hb
theorem gj {α:Type}{g:α→List Str}{l:List α}(h:∀a∈l,okP (g a)):okP (l.map g).flatten:=fun b hb=>by
 obtain⟨m,hm,hb⟩:=List.mem_flatten.mp hb
 obtain⟨a,ha,rfl⟩:=List.mem_map.mp hm
 exact h a ha b hb
theorem oS {R:Str}(hR:R.ok):∀ {l:List Str},okP l→(ap l R).ok
 |[],_=>hR
 |a::l,h=>kD (h a (List.mem_cons_self ..)) (oS hR fun b hb=>h b (List.mem_cons_of_mem _ hb))
def inI (n:Int):Prop:= -9223372036854775808≤n∧n≤9223372036854775807
theorem yp {a R:Str}(ha:a.ok)(hR:R.ok){n:Nat}(hn:n=a.len):en n (a.cat R)=some (a,R):=by
 subst hn
 unfold en
 rw[if_pos (by rw[jN];omega),sQ ha hR,xf hR]
theorem An {n:Nat}{R:Str}(hn:n<18446744073709551616)(hR:R.ok):rdW ((wd n).cat R)=some (n,R):=by
 unfold rdW
 rw[yp (n:=8) (wm hn) hR rfl];rfl
theorem jj {n:Int}{R:Str}(hn:inI n)(hR:R.ok):rdN ((aY n).cat R)=some (n,R):=by
 unfold rdN
 rw[show aY n=wd (u64 n) from rfl,An (qU n) hR]
 simp only[Ez hn.1 hn.2]
theorem ED {n:Nat}{R:Str}(hn:n≤R.len)(hl:R.len≤1000000000)(hR:R.ok):rdC ((aY (n:Int)).cat R)=some (n,R):=by
 unfold rdC
 rw[jj ⟨by omega,by omega⟩ hR]
 simp only[Int.toNat_natCast]
 rw[if_neg (by omega)]
theorem ra {a R:Str}(ha:a.ok)(hl:a.len+R.len≤1000000000)(hR:R.ok):rdT (ap (cU a) R)=some (a,R):=by
 unfold rdT
 show(match rdC ((aY (a.len:Int)).cat (a.cat R)) with|some (n,T')=>en n T'|none=>none)=_
 rw[ED (by rw[jN];omega) (by rw[jN];omega) (kD ha hR)]
 exact yp ha hR rfl
theorem jM {a:Str}(ha:a.ok):okP (cU a):=et (cR _) (et ha vd)
theorem Hi {α:Type}{f:Str→Option (α×Str)}{g:α→List Str}:∀ {l:List α} {R:Str},(∀a∈l,∀R:Str,R.ok→aM (g a)+R.len≤1000000000→f (ap (g a) R)=some (a,R))→(∀a∈l,okP (g a))→aM (l.map g).flatten+R.len≤1000000000→R.ok→rdM f l.length (ap (l.map g).flatten R)=some (l,R)
 |[],R,_,_,_,_=>rfl
 |a::l,R,hf,hg,hl,hR=>by
  rw[List.map_cons,List.flatten_cons,aA] at hl
  have ih:=Hi (f:=f) (g:=g) (l:=l) (R:=R) (fun b hb=>hf b (List.mem_cons_of_mem _ hb)) (fun b hb=>hg b (List.mem_cons_of_mem _ hb)) (by omega) hR
  have hk:okP (l.map g).flatten:=gj fun b hb=>hg b (List.mem_cons_of_mem _ hb)
  rw[List.map_cons,List.flatten_cons,lK,List.length_cons]
  simp only[rdM,hf a (List.mem_cons_self ..) _ (oS hR hk) (by rw[ma];omega),ih]
theorem wy {α:Type}{f:Str→Option (α×Str)}{g:α→List Str}{l:List α}{R:Str}(hf:∀a∈l,∀R:Str,R.ok→aM (g a)+R.len≤1000000000→f (ap (g a) R)=some (a,R))(hg:∀a∈l,okP (g a))(h1:∀a,1≤aM (g a))(hl:aM (l.map g).flatten+R.len≤1000000000)(hR:R.ok):rdL f (ap (aY (l.length:Int)::(l.map g).flatten) R)=some (l,R):=by
 unfold rdL
 have h8:=nv g h1 l
 show(match rdC ((aY (l.length:Int)).cat (ap (l.map g).flatten R)) with|some (n,T1)=>rdM f n T1|none=>none)=_
 rw[ED (by rw[ma];omega) (by rw[ma];omega) (oS hR (gj hg))]
 exact Hi hf hg hl hR
theorem LB {v:Vl}(hv:tc v){R:Str}(hR:R.ok)(hl:aM (ib v)+R.len≤1000000000):nI (ap (ib v) R)=some (v,R):=by
 obtain⟨v1,v2,v3,v4,v5,v6⟩:=hv
 rw[nT] at hl
 have ht:=oS hR (jM v1)
 have h2:((wd v.f).cat (ap (cU v.s) R)).ok:=kD (wm v2) ht
 have h3:((wd (u64 v.n)).cat ((wd v.f).cat (ap (cU v.s) R))).ok:=kD (wm (qU _)) h2
 unfold nI
 rw[show ap (ib v) R=(aY v.kind).cat ((wd (u64 v.n)).cat ((wd v.f).cat (ap (cU v.s) R))) from by rw[ib,lK];rfl,jj ⟨v5,v6⟩ h3]
 simp only
 rw[An (qU v.n) h2]
 simp only
 rw[An v2 ht]
 simp only
 rw[ra v1 (by omega) hR]
 simp only[Ez v3 v4]
theorem Mx {v:Vl}(hv:tc v):okP (ib v):=by
 unfold ib
 exact eo (et (cR _) (et (cR _) (et (wm hv.2.1) vd))) (jM hv.1)
theorem C0 {r:List Vl}(hr:∀v∈r,tc v):okP (cW r):=et (cR _) (gj fun v h=>Mx (hr v h))
theorem Im {r:List Vl}(hr:∀v∈r,tc v){R:Str}(hR:R.ok)(hl:aM (cW r)+R.len≤1000000000):kO (ap (cW r) R)=some (r,R):=by
 have h8:aM (cW r)=8+aM (r.map ib).flatten:=by rw[cW,bL];rfl
 exact wy (f:=nI) (g:=ib) (l:=r) (fun v hv R hR hl=>LB (hr v hv) hR hl) (fun v hv=>Mx (hr v hv)) (fun v=>by rw[nT];omega) (by omega) hR
theorem FP {l:List (List Vl)}(hr:∀r∈l,∀v∈r,tc v){R:Str}(hR:R.ok)(hl:aM (dQ l)+R.len≤1000000000):km (ap (dQ l) R)=some (l,R):=by
 have h8:aM (dQ l)=8+aM (l.map cW).flatten:=by rw[dQ,bL];rfl
 exact wy (f:=kO) (g:=cW) (l:=l) (fun v hv R hR hl=>Im (hr v hv) hR hl) (fun v hv=>C0 (hr v hv)) (fun v=>by rw[cW,bL];show 1≤8+_;omega) (by omega) hR
theorem HA {r:Str×Str}(h:r.1.ok∧r.2.ok):okP (eI r):=eo (jM h.1) (jM h.2)
theorem Lx {r:Str×Str}(h:r.1.ok∧r.2.ok){R:Str}(hR:R.ok)(hl:aM (eI r)+R.len≤1000000000):qj (ap (eI r) R)=some (r,R):=by
 have hlq:aM (eI r)=8+r.1.len+(8+r.2.len):=by rw[eI,aA,bg,bg]
 unfold qj
 rw[eI,lK,ra h.1 (by rw[ma,bg];omega) (oS hR (jM h.2))]
 simp only
 rw[ra h.2 (by omega) hR]
theorem GQ {w:Str×Str×Bool}(h:w.1.ok∧w.2.1.ok):okP (dL w):=eo (eo (jM h.1) (jM h.2)) (et (cR _) vd)
theorem JX {w:Str×Str×Bool}(h:w.1.ok∧w.2.1.ok){R:Str}(hR:R.ok)(hl:aM (dL w)+R.len≤1000000000):pK (ap (dL w) R)=some (w,R):=by
 have hlq:aM (dL w)=8+w.1.len+(8+w.2.1.len)+8:=by rw[dL,aA,aA,bg,bg];rfl
 have hn:((aY (if w.2.2=true then 1 else 0)).cat R).ok:=kD (cR _) hR
 unfold pK
 rw[dL,lK,lK,show ap [aY (if w.2.2=true then 1 else 0)] R=(aY (if w.2.2=true then 1 else 0)).cat R from rfl,ra h.1 (by rw[ma,bg,jN];show _+(_+(8+_))≤_;omega) (oS hn (jM h.2))]
 simp only
 rw[ra h.2 (by rw[jN];show _+(8+_)≤_;omega) hn]
 simp only
 rw[jj (by split<;>exact⟨by decide,by decide⟩) hR]
 obtain⟨a,b,d⟩:=w
 cases d<;>rfl
structure OF (c:Cmd):Prop where
 kind:inI c.kind
 client:inI c.client
 seq:inI c.seq
 snap:inI c.snap
 dl:inI c.dl
 after:inI c.after
 held:inI c.held
 code:inI c.code
theorem IJ {c:Cmd}(hok:sc c)(hn:OF c){R:Str}(hR:R.ok)(hl:aM (cI c)+R.len≤1000000000):gI (ap (cI c) R)=some (c,R):=by
 have hlen:aM (cI c)=aM (bJ c)+aM (dg c)+aM (eZ c)+aM (jq c):=by simp only[cI,aA]
 have hlk:aM (bJ c)=40+aM (c.keys.map cU).flatten:=by rw[bJ,aA,eW];rfl
 have hlr:aM (dg c)=8+aM (c.ranges.map eI).flatten:=by rw[dg,bL];rfl
 have hlw:aM (eZ c)=8+aM (c.writes.map dL).flatten:=by rw[eZ,bL];rfl
 have hle:aM (jq c)=24+(8+c.text.len)+(8+aM (dQ c.rows)):=by rw[jq,aA,aA,aA,eW,bg];rfl
 let rZ:=ap (dQ c.rows) R
 let rY:=(aY c.code).cat rZ
 let rX:=ap (cU c.text) rY
 let rV3:=(aY c.held).cat rX
 let rV2:=(aY c.after).cat rV3
 let rV:=(aY c.dl).cat rV2
 let rU:=ap (aY (c.writes.length:Int)::(c.writes.map dL).flatten) rV
 let rQ:=ap (aY (c.ranges.length:Int)::(c.ranges.map eI).flatten) rU
 let rK:=ap (aY (c.keys.length:Int)::(c.keys.map cU).flatten) rQ
 let r3:=(aY c.snap).cat rK
 let r2:=(aY c.seq).cat r3
 let r1:=(aY c.client).cat r2
 have kZ:rZ.ok:=oS hR (et (cR _) (gj fun r hr=>C0 (hok.rows r hr)))
 have kY:rY.ok:=kD (cR _) kZ
 have kX:rX.ok:=oS kY (jM hok.text)
 have kV3:rV3.ok:=kD (cR _) kX
 have kV2:rV2.ok:=kD (cR _) kV3
 have kV:rV.ok:=kD (cR _) kV2
 have kU:rU.ok:=oS kV (et (cR _) (gj fun w hw=>GQ (hok.writes w hw)))
 have kQ:rQ.ok:=oS kU (et (cR _) (gj fun w hw=>HA (hok.ranges w hw)))
 have kK:rK.ok:=oS kQ (et (cR _) (gj fun w hw=>jM (hok.keys w hw)))
 have k3:r3.ok:=kD (cR _) kK
 have k2:r2.ok:=kD (cR _) k3
 have k1:r1.ok:=kD (cR _) k2
 have lZ:rZ.len=aM (dQ c.rows)+R.len:=ma _ _
 have lY:rY.len=8+rZ.len:=rfl
 have lX:rX.len=8+c.text.len+rY.len:=by rw[←bg];exact ma _ _
 have lV:rV.len=8+(8+(8+rX.len)):=rfl
 have lU:rU.len=8+aM (c.writes.map dL).flatten+rV.len:=by rw[←hlw];exact ma _ _
 have lQ:rQ.len=8+aM (c.ranges.map eI).flatten+rU.len:=by rw[←hlr];exact ma _ _
 have e0:ap (cI c) R=(aY c.kind).cat r1:=by
  simp only[cI,bJ,dg,eZ,jq,lK];rfl
 rw[e0]
 unfold gI
 rw[jj hn.kind k1]
 simp only
 rw[show r1=(aY c.client).cat r2 from rfl,jj hn.client k2]
 simp only
 rw[show r2=(aY c.seq).cat r3 from rfl,jj hn.seq k3]
 simp only
 rw[show r3=(aY c.snap).cat rK from rfl,jj hn.snap kK]
 simp only
 unfold rdK
 rw[show rK=ap (aY (c.keys.length:Int)::(c.keys.map cU).flatten) rQ from rfl,wy (f:=rdT) (g:=cU) (fun a ha R hR hl=>ra (hok.keys a ha) (by rw[bg] at hl;omega) hR) (fun a ha=>jM (hok.keys a ha)) (fun a=>by rw[bg];omega) (by omega) kQ]
 simp only
 unfold rdQ
 rw[show rQ=ap (aY (c.ranges.length:Int)::(c.ranges.map eI).flatten) rU from rfl,wy (f:=qj) (g:=eI) (fun a ha R hR hl=>Lx (hok.ranges a ha) hR hl) (fun a ha=>HA (hok.ranges a ha)) (fun a=>by rw[eI,aA,bg];omega) (by omega) kU]
 simp only
 unfold rdU
 rw[show rU=ap (aY (c.writes.length:Int)::(c.writes.map dL).flatten) rV from rfl,wy (f:=pK) (g:=dL) (fun a ha R hR hl=>JX (hok.writes a ha) hR hl) (fun a ha=>GQ (hok.writes a ha)) (fun a=>by rw[dL,aA,aA,bg];omega) (by omega) kV]
 simp only
 unfold rdV
 rw[show rV=(aY c.dl).cat rV2 from rfl,jj hn.dl kV2]
 simp only
 rw[show rV2=(aY c.after).cat rV3 from rfl,jj hn.after kV3]
 simp only
 rw[show rV3=(aY c.held).cat rX from rfl,jj hn.held kX]
 simp only
 unfold rdX
 rw[show rX=ap (cU c.text) rY from rfl,ra hok.text (by omega) kY]
 simp only
 unfold rdY
 rw[show rY=(aY c.code).cat rZ from rfl,jj hn.code kZ]
 simp only
 unfold rdZ
 rw[show rZ=ap (dQ c.rows) R from rfl,FP hok.rows hR (by omega)]
theorem L7 {c:Cmd}(hok:sc c):(qm c).ok:=by
 unfold qm
 rw[uY]
 refine oS si ?_
 unfold cI bJ dg eZ jq
 refine eo (eo (eo (eo (fun a ha=>?_) (gj fun w hw=>jM (hok.keys w hw))) (et (cR _) (gj fun w hw=>HA (hok.ranges w hw)))) (et (cR _) (gj fun w hw=>GQ (hok.writes w hw)))) (eo (eo (fun a ha=>?_) (jM hok.text)) (eo (et (cR _) vd) (et (cR _) (gj fun r hr=>C0 (hok.rows r hr)))))
 ·obtain⟨n,_,rfl⟩:=List.mem_map.mp ha;exact cR n
 ·obtain⟨n,_,rfl⟩:=List.mem_map.mp ha;exact cR n
theorem Pp {c:Cmd}(h:lv c=true):OF c:=by
 unfold lv mi wi dA at h
 simp at h
 obtain⟨h1,h2,_⟩:=h
 constructor<;>exact⟨by omega,by omega⟩
theorem yS {c:Cmd}(h:(fw c).2=0):lv c=true∧(jh (qm c)).len≤20000∧(fw c).1=jh (qm c):=by
 unfold fw at*
 split at h
 ·split at h
  ·rename_i h1 h2
   rw[if_pos h1,if_pos h2]
   exact⟨h1,h2,rfl⟩
  ·cases h
 ·cases h
theorem AW {c:Cmd}(hok:sc c)(h:(fw c).2=0):qZ (fw c).1=some c:=by
 obtain⟨h1,h2,h3⟩:=yS h
 have hle:(qm c).len=aM (cI c):=by unfold qm;rw[uY,ma];exact Nat.add_zero _
 rw[nL] at h2
 unfold qZ
 rw[h3,Dh (L7 hok)]
 simp only
 rw[show qm c=ap (cI c) bu from uY _,IJ hok (Pp h1) si (by show _+0≤_;omega)]
 simp only
 rw[←uY,show bu.app (cI c)=qm c from rfl,if_pos ⟨h,by rw[h3];exact Str.fT _⟩]
end Go.Proofs.Ytofohkdkpbigiaa
end
section
namespace Go.Proofs.Ytofohkdkpbigiaa
open Go.Am
set_option maxRecDepth 10000
set_option maxHeartbeats 1000000
set_option linter.unusedSimpArgs false
theorem AX {k k':Str}{vs:List Ver}:∀ {al:Al},lkA (iW al k vs) k'=if k'.beq k=true then vs else lkA al k'
 |[]=>by
  simp only[iW,lkA]
  cases k'.beq k<;>rfl
 |(a,ws)::al=>by
  simp only[iW]
  cases h:k.beq a with
  |true=>
   have:=Str.nM h
   subst this
   simp only[lkA]
   cases k'.beq k<;>rfl
  |false=>
   simp only[lkA]
   cases h2:k'.beq a with
   |true=>
    have:=Str.nM h2
    subst this
    have:k'.beq k=false:=Str.beq_false.mpr (fun e=>Str.beq_false.mp h e.symm)
    rw[this];rfl
   |false=>exact AX
structure Wr (m m':SM)(t:Int)(k w:Str):Prop where
 room:m'.room=m.room
 size:m'.size=m.size+1
 last:m'.last=t
 all:∀k',lkA m'.all k'=if k'.beq k=true then lkA m.all k++[⟨t,w,false⟩] else lkA m.all k'
 ok:SOK m'
theorem Bs {l:List Ver}{t:Int}{w:Str}:nE (l++[⟨t,w,false⟩]) t=(w,true):=by
 unfold nE
 rw[List.length_append]
 show zG _ t (l.length+1)=_
 simp only[zG,List.getElem?_concat_length,Int.le_refl,if_true,Bool.not_false]
end Go.Proofs.Ytofohkdkpbigiaa
end
section
namespace Go.Proofs.Ytofohkdkpbigiaa
open Go.Am
set_option maxRecDepth 10000
set_option maxHeartbeats 1000000
set_option linter.unusedSimpArgs false
section
variable {O:bj}
theorem I0:X.fns.get 8=some Try.f8:=by kernel_rfl
theorem Oe:X.fns.get 6=some Try.f6:=by kernel_rfl
theorem BM {t:Int}{d:Str}:bz X 31 [(0, .int .i64 t),(1, .str d)]=some (.pure (.agg [.int .i64 t, .str d])):=by
 simp only[bz,vH,Aj,cS,ay,aF,cL,dc,AV.cells,dB,fB]
 rfl
theorem HV (ho:O 6=none){s:St}{n:Int}:Ca X O (.fn 6) [.int .i64 n] s fun r=>r= .ret (.int .i64 n) s:=by
 refine bb ho Oe rfl ?_
 unfold aD aD
 refine uG ?_
 refine ai rfl ?_
 rfl
theorem C8 (ho:EF O)(he:O 8=none){s:St}(htd:Tidy s){c:Cmd}{z:CL}(hc:sY s c z)(hl:aM (cI c)≤1000000){t:Int}:
  Ca X O (.fn 8) [.int .i64 t, .agg (bY c z)] s fun r=>∃s',r= .ret (.agg [.int .i64 t, .str (fw c).1]) s'∧Am.Mod No s s':=by
 refine bb he I0 rfl ?_
 unfold aD aD aD
 (repeat(first|refine uS ?_ |refine aa rfl ?_));refine ad (by simp(disch:=omega) only[uB,uT,cX (cs:=bY c z) hc.h.qI,bQ Aj rfl,AV.cells];exact rfl) ?_;(repeat(first|refine uS ?_ |refine aa rfl ?_))
 refine zj fun s1 hn1 hm1 h1 h2=>?_
 repeat(first|refine uS ?_ |refine aa rfl ?_ |refine ad (by simp(disch:=omega) only[uB,uT,h1.all bZ rfl cn];exact rfl) ?_)
 refine aj (yu ho (hm1.tidy htd) (hc.no hm1) hl) ?_ ?_
 ·rintro r s2 ⟨s2',e,hm2⟩
  cases e
  obtain⟨s3,e3,k3,hm3,n3⟩:=(h2.no hm2).Aq (X:=X) (t:=31) (m:=[.int .i64 t, .str (fw c).1]) rfl zD rfl
  refine uL ?_
  (repeat(first|refine uS ?_ |refine aa rfl ?_));refine ad (by simp(disch:=omega) only[uB,uT,BM,e3];exact rfl) ?_;(repeat(first|refine uS ?_ |refine aa rfl ?_))
  refine sC rfl rfl (k3.all vH rfl zD) ⟨s3,rfl,(hm1.trans hm2 (fun _ _ h=>h)).trans hm3 (fun d hd e=>by omega)⟩
 ·rintro r s' ⟨_,e,_⟩
  cases e
theorem L3 (ho:DQ O){s:St}(htd:Tidy s){d:Str}(hd:d.len≤100000):OB O (Nm d) d s:=fun s1 hm=>
 (FC ho (hm.tidy htd) hd).mono fun r ⟨c,z,s',e,h1,h2,h3,h4,h5⟩=>⟨c,z,s',e,h1,h2.h,h4,h3,h5⟩
end
end Go.Proofs.Ytofohkdkpbigiaa
end
section
namespace Go.Am
section
variable {X:Ctx}{O:bj}{c:Code}{L:Sl}{D:List DE}{s:St}{Q:cf}{l0 l1 l2 cs zs:List AV}{n0 n1 n2 n3:Nat}{cc:Tr AV}
theorem Cj {a b:TypeId}{d:TypeDesc}{k:IntKind}{s:St}{n:Nat}(hu:X.und a=some d)(hb:X.und b=some (.int .i64))(hn:n≤1000000):bH X a b (.int k (n:Int)) s=some (.pure (.int .i64 (n:Int))):=by
 simp only[bH,hu,hb]
 rw[Dw (by omega) (by omega)]
end
end Go.Am
end
section
namespace Go.Proofs.Ytofohkdkpbigiaa
open Go.Am
set_option maxRecDepth 10000
set_option maxHeartbeats 1000000
set_option linter.unusedSimpArgs false
noncomputable def AY:List AV→St→Option CR
 |[],s=>some (.ret (.bool true) s)
 | _,_=>none
section
variable {O:bj}
structure Qw (O:bj):Prop where
 dow:DoO O
 get:DQ O
 dput:EF O
 new:O 5=none
 snew:O 16=none
 num:O 6=none
 entry:O 8=none
 store:O 9=none
 sget:Lc O
 aw:O 11=some AY
 times:O 3=none
end
end Go.Proofs.Ytofohkdkpbigiaa
end
section
namespace Go.Am
section
variable {P:Program}{f:FuncId}{fn:Func}
theorem Dk {e:Array Value→Sem Value}(hP:P.funcs[f]? =some fn)(hb:fn.body.isNone=true)(hn:(fn.name== "runtime.NumGoroutine")=false)(h1:(Extern.findNext fn).isNone=true)(h2:Extern.find fn=some e)(args:Array Value)(w:World):
  (callFunc f args).run P w=((e args).run P w).andThen fun v w=> .ok (.value v) w:=by
 have h1':Extern.findNext fn=none:=by simpa using h1
 have hn':fn.name≠ "runtime.NumGoroutine" :=by simpa using hn
 have hb':fn.body=none:=by simpa using hb
 simp[callFunc,hP,hn',hb',h1',h2,Sem.run_bind]
structure DT (P:Program)(f:FuncId)(e:Array Value→Sem Value):Prop where
 ex:∃fn,P.funcs[f]? =some fn∧fn.body.isNone=true∧(fn.name== "runtime.NumGoroutine")=false∧(Extern.findNext fn).isNone=true∧Extern.find fn=some e
theorem DT.run {e:Array Value→Sem Value}(h:DT P f e)(args:Array Value)(w:World):(callFunc f args).run P w=((e args).run P w).andThen fun v w=> .ok (.value v) w:=by
 obtain⟨fn,h1,h2,h3,h4,h5⟩:=h.ex
 exact Dk h1 h2 h3 h4 h5 args w
def fK (P:Program)(f:FuncId)(g:List AV→St→Option CR):Prop:=∀args s r,g args s=some r→∀ι w cargs,VRs ι args cargs.toList→HR P ι s w→np P ι s w r f cargs
theorem VRs.xj {ι:Inj}{a:AV}{cargs:Array Value}(h:VRs ι [a] cargs.toList):∃ca,cargs= #[ca]∧VR ι a ca:=by
 obtain⟨cl⟩:=cargs
 match cl,h with
 |[ca],h=>exact⟨ca,rfl,by simpa[VRs] using h⟩
 |[],h=>simp[VRs] at h
 | _::_::_,h=>simp[VRs] at h
theorem VRs.Qm {ι:Inj}{a b:AV}{cargs:Array Value}(h:VRs ι [a,b] cargs.toList):∃ca cb,cargs= #[ca,cb]∧VR ι a ca∧VR ι b cb:=by
 obtain⟨cl⟩:=cargs
 match cl,h with
 |[ca,cb],h=>simp only[VRs,and_true] at h;exact⟨ca,cb,rfl,h.1,h.2⟩
 |[],h=>simp[VRs] at h
 |[_],h=>simp[VRs] at h
 | _::_::_::_,h=>simp[VRs] at h
theorem xT {ι:Inj}{s:St}{w:World}{cargs:Array Value}{v:AV}{cv:Value}(hH:HR P ι s w)(hr:(callFunc f cargs).run P w= .ok (.value cv) w)(hv:VR ι v cv):np P ι s w (.ret v s) f cargs:=
 .inr ⟨cv,w,hr,v,s,rfl,ι,hv,hH,Ext.refl _ _ _⟩
theorem BV (h:DT P f Extern.MathFloatBits.float64frombits):fK P f qf:=by
 intro args s r hr ι w cargs hv hH
 unfold qf at hr
 split at hr
 ·rename_i s n
  cases hr
  obtain⟨ca,rfl,ha⟩:=hv.xj
  simp only[VR] at ha
  subst ha
  refine xT hH (cv:= .float .f64 n) ?_ (by simp[VR])
  rw[h.run]
  have e0:Extern.MathFloatBits.float64frombits #[.int .u64 (Int.ofNat n)]=(pure (.float .f64 n):Sem Value):=rfl
  rw[e0];simp
 ·cases hr
def CV:List (FuncId× (List AV→St→Option CR))→bj
 |[],_=>none
 |(g,k)::l,f=>match Nat.beq f g with
  |true=>some k
  |false=>CV l f
theorem uV {l:List (FuncId× (List AV→St→Option CR))}(h:∀p∈l,fK P p.1 p.2):pc P (CV l):=by
 intro f g hg
 induction l with
 |nil=>cases hg
 |cons p l ih=>
  unfold CV at hg
  split at hg
  ·rename_i hf
   cases hg
   have:=Nat.beq_eq.mp hf
   subst this
   exact h _ (by simp)
  ·exact ih (fun q hq=>h q (by simp[hq])) hg
end
end Go.Am
end
