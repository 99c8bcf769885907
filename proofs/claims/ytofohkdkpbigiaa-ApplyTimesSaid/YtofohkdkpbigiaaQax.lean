/-
  A part of the texts.
-/
import Derived.Test.YtofohkdkpbigiaaQaw
section
namespace Go.Proofs.Ytofohkdkpbigiaa
open Go.Am
set_option maxRecDepth 10000
set_option maxHeartbeats 1000000
set_option linter.unusedSimpArgs false
section
variable {O:bk}
theorem L4:X.fns.get 14=some Try.f14:=by kernel_rfl
structure I7 (O:bk):Prop where
 wri:DWO O
 may:A3 O
 cmay:O 13=none
 sl:Bw O
 put:O 14=none
theorem Gk:bf X 85 []=some (.pure (.agg [.slc none 0 0 true])):=by
 simp only[bf,Cn,Eu,cI,cP,bZ,cO,AV.cells,db,eL]
theorem E3 (ho:I7 O){s:St}(htd:Tidy s){c:Cmd}{z:CL}(hc:p9 s c z)(hl:aN (cg c)≤1000000):
  Ca X O (.fn 14) [.agg (cj c z)] s fun r=>∃s',r= .ret (.tup [.str (gu c).1, .int .i64 (gu c).2]) s'∧Am.Mod No s s':=by
 obtain⟨hr1,hr2⟩:=AX (c:=c)
 obtain⟨Z,hZ,hZlt⟩:=hc.r
 have hok:=hc.ok
 have hlen:aN (cg c)=aN (bJ c)+aN (dj c)+aN (fC c)+aN (jg c):=by simp only[cg,az]
 have hlk:aN (bJ c)=40+aN (c.keys.map cS).flatten:=by rw[bJ,az,eW];rfl
 have hlr:aN (dj c)=8+aN (c.ranges.map eA).flatten:=by rw[dj,bO];rfl
 have hlw:aN (fC c)=8+aN (c.writes.map en).flatten:=by rw[fC,bO];rfl
 have hle:aN (jg c)=24+(8+c.text.len)+(8+aN (dJ c.rows)):=by rw[jg,az,az,az,eW,bg];rfl
 have hlx:aN (dJ c.rows)=8+aN (c.rows.map cU).flatten:=by rw[dJ,bO];rfl
 obtain⟨vs,hs0,hzx,hall⟩:=hZ.ex
 have hvl:=hall.len
 obtain⟨ax,cx,xx,ex,_⟩:=hs0.ex
 rw[List.length_map,hvl] at ex
 obtain⟨ak,ck,xk,ek,_⟩:=hc.h.k.ex
 obtain⟨ar,cr,xr,er,_⟩:=hc.h.r.ex
 obtain⟨aw,cw,xw,ew,_⟩:=hc.h.w.ex
 rw[List.length_map] at ek er ew
 have hkl:=hc.h.kl
 have hrl:=hc.h.rl
 have hwl:=hc.h.wl
 refine aZ ho.put L4 rfl ?_
 unfold aB aB
 (repeat(first|refine uS ?_ |refine aa rfl ?_));refine ad (by simp(disch:=omega) only[uB,uT,bn,da (cs:=cj c z) hc.h.qz];exact rfl) ?_;(repeat(first|refine uS ?_ |refine aa rfl ?_))
 refine eK fun s1 hn1 hm1 hb1=>?_
 have hc1:=hc.no hm1
 repeat(first|refine uS ?_ |refine aa rfl ?_ |refine ad (by simp(disch:=omega) only[uB,uT,hb1.all bY rfl cD];exact rfl) ?_)
 refine au (C5 ho.may ho.cmay hc1.h (hZ.mod hm1 (fun _ _ h=>h)) hc.ok (by omega) (fun r hr=>by have:=hr2 r hr;omega)) ?_ ?_
 ·rintro r s2 ⟨s2',e,hm2⟩
  cases e
  have hm02:=hm1.trans hm2 (fun _ _ h=>h)
  refine uL ?_
  refine uH ?_
  refine uJ [1,12] ?_
  refine ae rfl rfl (fun hcm=>?_) (fun hcm=>?_)
  ·repeat(first|refine uS ?_ |refine aa rfl ?_ |refine ad (by simp(disch:=omega) only[uB,uT,bn];exact rfl) ?_)
   refine ai rfl ?_
   have:lN c=false:=by simpa using hcm
   exact⟨s2,by unfold gu;rw[this];rfl,hm02⟩
  ·have hmay:lN c=true:=by simpa using hcm
   (repeat(first|refine uS ?_ |refine aa rfl ?_));refine ad (by simp(disch:=omega) only[uB,uT,Gk,Iz];exact rfl) ?_;(repeat(first|refine uS ?_ |refine aa rfl ?_))
   refine eK fun s3 hn3 hm3 hb3=>?_
   have hm03:=hm02.trans hm3 (fun _ _ h=>h)
   have htd3:=hm03.tidy htd
   have hc3:=hc.no hm03
   have n02:=hm02.nx
   have n12:=hm2.nx
   have hw:Wri s3 s2.nx (fun d=>d=s2.nx) bE:=⟨⟨_,hb3,Buf.nil,fun d hd=>by cases hd⟩,rfl,fun d hd=>by subst hd;omega⟩
   have h1:WS s3 (fun d=>d=s2.nx) s2.nx s3 bE:=WS.start hw htd3
   have hzh:∀d,z.has d→¬d=s2.nx:=fun d hd e=>by have:=hc.b d hd;omega
   have hzz:∀d,Z d→¬d=s2.nx:=fun d hd e=>by have:=hZlt d hd;omega
   have hb13:Bx s3 s.nx (cj c z):=(hb1.no hm2).no hm3
   have hne:¬s.nx=s2.nx:=by omega
   generalize hbw:s2.nx=b at*
   generalize hH:(fun d=>d=b)=H at*
   have hzh':∀d,z.has d→¬H d:=fun d hd=>by rw[←hH];exact hzh d hd
   have hzz':∀d,Z d→¬H d:=fun d hd=>by rw[←hH];exact hzz d hd
   have hnH:¬H s.nx:=by rw[←hH];exact hne
   have gb:∀ {s' S'},WS s3 H b s' S'→Bx s' s.nx (cj c z):=fun hx=>hb13.mod hx.m hnH
   have fin:∀ {s' S'},WS s3 H b s' S'→Am.Mod No s s':=fun hx=>hm03.trans hx.m (fun d hd e=>by rw[←hH] at e;subst e;omega)
   have gk:∀ {s' S'},WS s3 H b s' S'→aO X 36 (.ptr (some (s.nx,4))) s'=some (.old (.slc ak c.keys.length ck xk)):=fun hx=>by rw[←ek];exact(gb hx).ld (i:=4) rfl dK rfl fu
   have gr:∀ {s' S'},WS s3 H b s' S'→aO X 37 (.ptr (some (s.nx,5))) s'=some (.old (.slc ar c.ranges.length cr xr)):=fun hx=>by rw[←er];exact(gb hx).ld (i:=5) rfl fq rfl fi
   have gw:∀ {s' S'},WS s3 H b s' S'→aO X 35 (.ptr (some (s.nx,6))) s'=some (.old (.slc aw c.writes.length cw xw)):=fun hx=>by rw[←ew];exact(gb hx).ld (i:=6) rfl cM rfl ft
   have gx:∀ {s' S'},WS s3 H b s' S'→aO X 38 (.ptr (some (s.nx,12))) s'=some (.old (.slc ax c.rows.length cx xx)):=fun hx=>by rw[←ex];exact(gb hx).ld (i:=12) rfl fS rfl gX
   repeat(first|refine uS ?_ |refine aa rfl ?_ |refine ad (by simp(disch:=omega) only[uB,uT,jn,Nat.zero_add,(gb h1).ld (i:=0) rfl aJ rfl ay];exact rfl) ?_)
   have j1:bE.len=0:=rfl
   refine au (h1.qa ho.wri (n:=c.kind) (by omega)) ?_ ?_
   ·rintro r t2 ⟨t2',e2,h2⟩
    cases e2
    have j2:(bE.app [aW c.kind]).len=8:=rfl
    refine uL ?_
    refine uH ?_
    repeat(first|refine uS ?_ |refine aa rfl ?_ |refine ad (by simp(disch:=omega) only[uB,uT,gK,Nat.zero_add,(gb h2).ld (i:=1) rfl aJ rfl ay];exact rfl) ?_)
    refine au (h2.qa ho.wri (n:=c.client) (by omega)) ?_ ?_
    ·rintro r t3 ⟨t3',e3,h3⟩
     cases e3
     have j3:((bE.app [aW c.kind]).app [aW c.client]).len=16:=rfl
     refine uL ?_
     refine uH ?_
     repeat(first|refine uS ?_ |refine aa rfl ?_ |refine ad (by simp(disch:=omega) only[uB,uT,kE,Nat.zero_add,(gb h3).ld (i:=2) rfl aJ rfl ay];exact rfl) ?_)
     refine au (h3.qa ho.wri (n:=c.seq) (by omega)) ?_ ?_
     ·rintro r t4 ⟨t4',e4,h4⟩
      cases e4
      have j4:(((bE.app [aW c.kind]).app [aW c.client]).app [aW c.seq]).len=24:=rfl
      refine uL ?_
      refine uH ?_
      repeat(first|refine uS ?_ |refine aa rfl ?_ |refine ad (by simp(disch:=omega) only[uB,uT,ly,Nat.zero_add,(gb h4).ld (i:=3) rfl aJ rfl ay];exact rfl) ?_)
      refine au (h4.qa ho.wri (n:=c.snap) (by omega)) ?_ ?_
      ·rintro r t5 ⟨t5',e5,h5⟩
       cases e5
       have j5:((((bE.app [aW c.kind]).app [aW c.client]).app [aW c.seq]).app [aW c.snap]).len=32:=rfl
       refine uL ?_
       refine uH ?_
       repeat(first|refine uS ?_ |refine aa rfl ?_ |refine ad (by simp(disch:=omega) only[uB,uT,mK,Nat.zero_add,gk h5];exact rfl) ?_)
       refine au (h5.qa ho.wri (n:=(c.keys.length:Int)) (by omega)) ?_ ?_
       ·rintro r t6 ⟨t6',e6,h6⟩
        cases e6
        have j6:(((((bE.app [aW c.kind]).app [aW c.client]).app [aW c.seq]).app [aW c.snap]).app [aW (c.keys.length:Int)]).len=40:=rfl
        refine uL ?_
        refine eH ?_
        refine cV ?_
        generalize hT1:(((((bE.app [aW c.kind]).app [aW c.client]).app [aW c.seq]).app [aW c.snap]).app [aW (c.keys.length:Int)])=T1 at*
        have hT1l:T1.len=40:=j6
        refine jY (fun L s'=>L=[(1, .ptr (some (s.nx,0))),(4, .ptr (some (b,0)))]∧WS s3 H b s' (T1.app (c.keys.map cS).flatten)) ?_ ?_
        ·refine uG ?_
         let I:Nat→Sl→St→Prop:=fun i L s'=>WS s3 H b s' (T1.app ((c.keys.take i).map cS).flatten)∧i≤c.keys.length∧L=[(1, .ptr (some (s.nx,0))),(4, .ptr (some (b,0))),(5, .int .i64 (i:Int))]
         refine WL.less (M:=[(1, .ptr (some (s.nx,0))),(4, .ptr (some (b,0))),(5, .int .i64 ((0:Nat):Int))]) ?_ rfl
         refine bm I (fun i=>c.keys.length- i) ?_ c.keys.length 0 _ _ (by simp) ⟨h6,Nat.zero_le _,rfl⟩
         rintro i L u1 ⟨g1,hi,rfl⟩
         repeat(first|refine uS ?_ |refine aa rfl ?_ |refine ad (by simp(disch:=omega) only[uB,uT,mK,Nat.zero_add,gk g1];exact rfl) ?_)
         refine uJ [1,4,5,40] ?_
         refine ae rfl rfl (fun hc2=>?_) (fun hc2=>?_)
         ·simp at hc2
          obtain⟨q,hq⟩:∃q,c.keys[i]? =some q:=⟨_,List.getElem?_eq_getElem (by omega)⟩
          obtain⟨b5,off5,c5,x5,t5,n5,e5,_,k2,k3⟩:=(hc3.h.k.mod g1.m fun d hd=>hzh' d (.inl hd)).at (i:=i) (r:=kr q) (by simp[hq])
          have hlt:=cY cS c.keys i hq
          have hft:=fD cS c.keys i hq
          have hlS:(T1.app ((c.keys.take i).map cS).flatten).len=T1.len+aN ((c.keys.take i).map cS).flatten:=aY _ _
          generalize hTT:T1.app ((c.keys.take i).map cS).flatten=TT at*
          rw[List.length_map] at e5
          rw[ek] at e5
          cases e5
          have k4:=fO k3
          have hqo:=hok.keys q (List.mem_of_getElem? hq)
          rw[bg] at hlt
          repeat(first|refine uS ?_ |refine aa rfl ?_ |refine ad (by simp(disch:=omega) only[uB,uT,mK,Nat.zero_add,gk g1,aT dK aF,aj aE rfl aF k2 k4,Int.toNat_natCast];exact rfl) ?_)
          refine au (g1.w5 ho.wri hqo (by omega)) ?_ ?_
          ·rintro r u2 ⟨u2',e2,g2⟩
           cases e2
           refine uL ?_
           refine uG ?_
           refine aM (i+1) [(1, .ptr (some (s.nx,0))),(4, .ptr (some (b,0))),(5, .int .i64 ((i+1:Nat):Int))] ⟨?_,by omega,rfl⟩ (by show c.keys.length- (i+1)<c.keys.length- i;omega) (by simp[aI,aD])
           rw[hft,bw,hTT]
           exact g2
          ·rintro r s' ⟨_,e2,_⟩
           cases e2
         ·simp at hc2
          have:i=c.keys.length:=by omega
          subst this
          rw[List.take_length] at g1
          refine uG ?_
          exact dH [(1, .ptr (some (s.nx,0))),(4, .ptr (some (b,0)))] ⟨rfl,g1⟩ (by simp[aI,aD])
        ·rintro L u3 ⟨rfl,h3⟩
         have hS3:T1.app (c.keys.map cS).flatten=bE.app (bJ c):=by rw[bJ,bw,←hT1];rfl
         rw[hS3] at h3
         have hl3:(bE.app (bJ c)).len=aN (bJ c):=by rw[aY];exact Nat.zero_add _
         generalize hT3:bE.app (bJ c)=T3 at*
         repeat(first|refine uS ?_ |refine aa rfl ?_ |refine ad (by simp(disch:=omega) only[uB,uT,md,Nat.zero_add,gr h3];exact rfl) ?_)
         refine au (h3.qa ho.wri (n:=(c.ranges.length:Int)) (by omega)) ?_ ?_
         ·rintro r u4 ⟨u4',e4,h4⟩
          cases e4
          refine uL ?_
          refine eH ?_
          refine cV ?_
          have hl4:(T3.app [aW (c.ranges.length:Int)]).len=aN (bJ c)+8:=by rw[aY,hl3];rfl
          generalize hT4:T3.app [aW (c.ranges.length:Int)]=T4 at*
          refine jY (fun L s'=>L=[(1, .ptr (some (s.nx,0))),(4, .ptr (some (b,0)))]∧WS s3 H b s' (T4.app (c.ranges.map eA).flatten)) ?_ ?_
          ·refine uG ?_
           let I:Nat→Sl→St→Prop:=fun i L s'=>WS s3 H b s' (T4.app ((c.ranges.take i).map eA).flatten)∧i≤c.ranges.length∧L=[(1, .ptr (some (s.nx,0))),(4, .ptr (some (b,0))),(6, .int .i64 (i:Int))]
           refine WL.less (M:=[(1, .ptr (some (s.nx,0))),(4, .ptr (some (b,0))),(6, .int .i64 ((0:Nat):Int))]) ?_ rfl
           refine bm I (fun i=>c.ranges.length- i) ?_ c.ranges.length 0 _ _ (by simp) ⟨h4,Nat.zero_le _,rfl⟩
           rintro i L u1 ⟨g1,hi,rfl⟩
           repeat(first|refine uS ?_ |refine aa rfl ?_ |refine ad (by simp(disch:=omega) only[uB,uT,md,Nat.zero_add,gr g1];exact rfl) ?_)
           refine uJ [1,4,6,59] ?_
           refine ae rfl rfl (fun hc2=>?_) (fun hc2=>?_)
           ·simp at hc2
            obtain⟨q,hq⟩:∃q,c.ranges[i]? =some q:=⟨_,List.getElem?_eq_getElem (by omega)⟩
            obtain⟨b5,off5,c5,x5,t5,n5,e5,_,k2,k3⟩:=(hc3.h.r.mod g1.m fun d hd=>hzh' d (.inr (.inl hd))).at (i:=i) (r:=pr q) (by simp[hq])
            have hlt:=cY eA c.ranges i hq
            have hft:=fD eA c.ranges i hq
            have hlS:(T4.app ((c.ranges.take i).map eA).flatten).len=T4.len+aN ((c.ranges.take i).map eA).flatten:=aY _ _
            generalize hTT:T4.app ((c.ranges.take i).map eA).flatten=TT at*
            rw[List.length_map] at e5
            rw[er] at e5
            cases e5
            obtain⟨hq1,hq2⟩:=hok.ranges q (List.mem_of_getElem? hq)
            have hlq:aN (eA q)=8+q.1.len+(8+q.2.len):=by rw[eA,az,bg,bg]
            have p1:=aj (X:=X) aE rfl aF k2 (by simpa using(aR.mp k3).2 0 _ rfl)
            repeat(first|refine uS ?_ |refine aa rfl ?_ |refine ad (by simp(disch:=omega) only[uB,uT,md,vX,Nat.add_zero,Nat.zero_add,gr g1,aT fq gm,p1,Int.toNat_natCast];exact rfl) ?_)
            refine au (g1.w5 ho.wri hq1 (by omega)) ?_ ?_
            ·rintro r u2 ⟨u2',e2,g2⟩
             cases e2
             refine uL ?_
             refine uH ?_
             have l2:(TT.app (cS q.1)).len=TT.len+(8+q.1.len):=by rw[aY,bg]
             obtain⟨b6,off6,c6,x6,t6,n6,e6,_,j2,j3⟩:=(hc3.h.r.mod g2.m fun d hd=>hzh' d (.inr (.inl hd))).at (i:=i) (r:=pr q) (by simp[hq])
             rw[List.length_map] at e6
             rw[er] at e6
             cases e6
             have p2:=aj (X:=X) aE rfl aF j2 ((aR.mp j3).2 1 _ rfl)
             repeat(first|refine uS ?_ |refine aa rfl ?_ |refine ad (by simp(disch:=omega) only[uB,uT,md,wy,Nat.zero_add,gr g2,aT fq gm,p2,Int.toNat_natCast];exact rfl) ?_)
             refine au (g2.w5 ho.wri hq2 (by omega)) ?_ ?_
             ·rintro r u5 ⟨u5',e7,g5⟩
              cases e7
              refine uL ?_
              refine uG ?_
              refine aM (i+1) [(1, .ptr (some (s.nx,0))),(4, .ptr (some (b,0))),(6, .int .i64 ((i+1:Nat):Int))] ⟨?_,by omega,rfl⟩ (by show c.ranges.length- (i+1)<c.ranges.length- i;omega) (by simp[aI,aD])
              rw[hft,bw,hTT,eA,bw]
              exact g5
             ·rintro r s' ⟨_,e2,_⟩
              cases e2
            ·rintro r s' ⟨_,e2,_⟩
             cases e2
           ·simp at hc2
            have:i=c.ranges.length:=by omega
            subst this
            rw[List.take_length] at g1
            refine uG ?_
            exact dH [(1, .ptr (some (s.nx,0))),(4, .ptr (some (b,0)))] ⟨rfl,g1⟩ (by simp[aI,aD])
          ·rintro L u5 ⟨rfl,h5⟩
           have hS5:T4.app (c.ranges.map eA).flatten=bE.app (bJ c++dj c):=by rw[bw,hT3,←hT4];rfl
           rw[hS5] at h5
           have hl5:(bE.app (bJ c++dj c)).len=aN (bJ c)+aN (dj c):=by rw[aY,az];exact Nat.zero_add _
           generalize hT5:bE.app (bJ c++dj c)=T5 at*
           repeat(first|refine uS ?_ |refine aa rfl ?_ |refine ad (by simp(disch:=omega) only[uB,uT,iK,Nat.zero_add,gw h5];exact rfl) ?_)
           refine au (h5.qa ho.wri (n:=(c.writes.length:Int)) (by omega)) ?_ ?_
           ·rintro r u6 ⟨u6',e6,h6'⟩
            cases e6
            refine uL ?_
            refine eH ?_
            refine cV ?_
            have hl6:(T5.app [aW (c.writes.length:Int)]).len=aN (bJ c)+aN (dj c)+8:=by rw[aY,hl5];rfl
            generalize hT6:T5.app [aW (c.writes.length:Int)]=T6 at*
            refine jY (fun L s'=>L=[(1, .ptr (some (s.nx,0))),(4, .ptr (some (b,0)))]∧WS s3 H b s' (T6.app (c.writes.map en).flatten)) ?_ ?_
            ·refine uG ?_
             let I:Nat→Sl→St→Prop:=fun i L s'=>WS s3 H b s' (T6.app ((c.writes.take i).map en).flatten)∧i≤c.writes.length∧L=[(1, .ptr (some (s.nx,0))),(4, .ptr (some (b,0))),(7, .int .i64 (i:Int))]
             refine WL.less (M:=[(1, .ptr (some (s.nx,0))),(4, .ptr (some (b,0))),(7, .int .i64 ((0:Nat):Int))]) ?_ rfl
             refine bm I (fun i=>c.writes.length- i) ?_ c.writes.length 0 _ _ (by simp) ⟨h6',Nat.zero_le _,rfl⟩
             rintro i L u1 ⟨g1,hi,rfl⟩
             repeat(first|refine uS ?_ |refine aa rfl ?_ |refine ad (by simp(disch:=omega) only[uB,uT,iK,Nat.zero_add,gw g1];exact rfl) ?_)
             refine uJ [1,4,7,87] ?_
             refine ae rfl rfl (fun hc2=>?_) (fun hc2=>?_)
             ·simp at hc2
              obtain⟨q,hq⟩:∃q,c.writes[i]? =some q:=⟨_,List.getElem?_eq_getElem (by omega)⟩
              have hat:∀ {s' S'},WS s3 H b s' S'→∃b5 off5 t5 n5,aw=some (b5,off5,3)∧s'.h.get b5=some (.cells t5 n5)∧ldL t5 (off5+i*3) 3=some (wrt q):=fun hx=>by
               obtain⟨b5,off5,c5,x5,t5,n5,e5,_,k2,k3⟩:=(hc3.h.w.mod hx.m fun d hd=>hzh' d (.inr (.inr hd))).at (i:=i) (r:=wrt q) (by simp[hq])
               rw[List.length_map] at e5
               rw[ew] at e5
               cases e5
               exact⟨b5,off5,t5,n5,rfl,k2,k3⟩
              obtain⟨b5,off5,t5,n5,rfl,k2,k3⟩:=hat g1
              have hlt:=cY en c.writes i hq
              have hft:=fD en c.writes i hq
              have hlS:(T6.app ((c.writes.take i).map en).flatten).len=T6.len+aN ((c.writes.take i).map en).flatten:=aY _ _
              generalize hTT:T6.app ((c.writes.take i).map en).flatten=TT at*
              obtain⟨hq1,hq2⟩:=hok.writes q (List.mem_of_getElem? hq)
              have hlq:aN (en q)=8+q.1.len+(8+q.2.1.len)+8:=by rw[en,az,az,bg,bg];rfl
              have p1:=aj (X:=X) aE rfl aF k2 (by simpa using(aR.mp k3).2 0 _ rfl)
              repeat(first|refine uS ?_ |refine aa rfl ?_ |refine ad (by simp(disch:=omega) only[uB,uT,iK,jm,Nat.add_zero,Nat.zero_add,gw g1,aT cM ct,p1,Int.toNat_natCast];exact rfl) ?_)
              refine au (g1.w5 ho.wri hq1 (by omega)) ?_ ?_
              ·rintro r u2 ⟨u2',e2,g2⟩
               cases e2
               refine uL ?_
               refine uH ?_
               have l2:(TT.app (cS q.1)).len=TT.len+(8+q.1.len):=by rw[aY,bg]
               obtain⟨b6,off6,t6,n6,e6,j2,j3⟩:=hat g2
               cases e6
               have p2:=aj (X:=X) aE rfl aF j2 ((aR.mp j3).2 1 _ rfl)
               repeat(first|refine uS ?_ |refine aa rfl ?_ |refine ad (by simp(disch:=omega) only[uB,uT,iK,lT,Nat.zero_add,gw g2,aT cM ct,p2,Int.toNat_natCast];exact rfl) ?_)
               refine au (g2.w5 ho.wri hq2 (by omega)) ?_ ?_
               ·rintro r u5 ⟨u5',e7,g5⟩
                cases e7
                refine uL ?_
                refine uH ?_
                have l5:((TT.app (cS q.1)).app (cS q.2.1)).len=TT.len+(8+q.1.len)+(8+q.2.1.len):=by rw[aY,l2,bg]
                obtain⟨b7,off7,t7,n7,e7,i2,i3⟩:=hat g5
                cases e7
                have p3:=aj (X:=X) nf rfl eI i2 ((aR.mp i3).2 2 _ rfl)
                repeat(first|refine uS ?_ |refine aa rfl ?_ |refine ad (by simp(disch:=omega) only[uB,uT,iK,lC,Nat.zero_add,gw g5,aT cM ct,p3,Int.toNat_natCast];exact rfl) ?_)
                refine au (g5.N9 ho.wri (v:=q.2.2) (by omega)) ?_ ?_
                ·rintro r u6 ⟨u6',e8,g6⟩
                 cases e8
                 refine uL ?_
                 refine uG ?_
                 refine aM (i+1) [(1, .ptr (some (s.nx,0))),(4, .ptr (some (b,0))),(7, .int .i64 ((i+1:Nat):Int))] ⟨?_,by omega,rfl⟩ (by show c.writes.length- (i+1)<c.writes.length- i;omega) (by simp[aI,aD])
                 rw[hft,bw,hTT,en,bw,bw]
                 exact g6
                ·rintro r s' ⟨_,e2,_⟩
                 cases e2
               ·rintro r s' ⟨_,e2,_⟩
                cases e2
              ·rintro r s' ⟨_,e2,_⟩
               cases e2
             ·simp at hc2
              have:i=c.writes.length:=by omega
              subst this
              rw[List.take_length] at g1
              refine uG ?_
              exact dH [(1, .ptr (some (s.nx,0))),(4, .ptr (some (b,0)))] ⟨rfl,g1⟩ (by simp[aI,aD])
            ·rintro L u7 ⟨rfl,h7⟩
             have hS7:T6.app (c.writes.map en).flatten=bE.app ((bJ c++dj c)++fC c):=by rw[bw,hT5,←hT6];rfl
             rw[hS7] at h7
             have hl7:(bE.app ((bJ c++dj c)++fC c)).len=aN (bJ c)+aN (dj c)+aN (fC c):=by rw[aY,az,az];exact Nat.zero_add _
             generalize hT7:bE.app ((bJ c++dj c)++fC c)=T7 at*
             repeat(first|refine uS ?_ |refine aa rfl ?_ |refine ad (by simp(disch:=omega) only[uB,uT,mJ,Nat.zero_add,(gb h7).ld (i:=7) rfl aJ rfl ay];exact rfl) ?_)
             refine au (h7.qa ho.wri (n:=c.dl) (by omega)) ?_ ?_
             ·rintro r v20 ⟨v20',e20,h20⟩
              cases e20
              refine uL ?_
              refine uH ?_
              have l20:(T7.app [aW c.dl]).len=T7.len+8:=by rw[aY];rfl
              generalize hS20:(T7.app [aW c.dl])=S20 at*
              repeat(first|refine uS ?_ |refine aa rfl ?_ |refine ad (by simp(disch:=omega) only[uB,uT,nj,Nat.zero_add,(gb h20).ld (i:=8) rfl aJ rfl ay];exact rfl) ?_)
              refine au (h20.qa ho.wri (n:=c.after) (by omega)) ?_ ?_
              ·rintro r v21 ⟨v21',e21,h21⟩
               cases e21
               refine uL ?_
               refine uH ?_
               have l21:(S20.app [aW c.after]).len=S20.len+8:=by rw[aY];rfl
               generalize hS21:(S20.app [aW c.after])=S21 at*
               repeat(first|refine uS ?_ |refine aa rfl ?_ |refine ad (by simp(disch:=omega) only[uB,uT,nZ,Nat.zero_add,(gb h21).ld (i:=9) rfl aJ rfl ay];exact rfl) ?_)
               refine au (h21.qa ho.wri (n:=c.held) (by omega)) ?_ ?_
               ·rintro r v22 ⟨v22',e22,h22⟩
                cases e22
                refine uL ?_
                refine uH ?_
                have l22:(S21.app [aW c.held]).len=S21.len+8:=by rw[aY];rfl
                generalize hS22:(S21.app [aW c.held])=S22 at*
                repeat(first|refine uS ?_ |refine aa rfl ?_ |refine ad (by simp(disch:=omega) only[uB,uT,iE,Nat.zero_add,(gb h22).ld (i:=10) rfl aE rfl aF];exact rfl) ?_)
                refine au (h22.w5 ho.wri hok.text (by omega)) ?_ ?_
                ·rintro r v23 ⟨v23',e23,h23⟩
                 cases e23
                 refine uL ?_
                 refine uH ?_
                 have l23:(S22.app (cS c.text)).len=S22.len+(8+c.text.len):=by rw[aY,bg]
                 generalize hS23:(S22.app (cS c.text))=S23 at*
                 repeat(first|refine uS ?_ |refine aa rfl ?_ |refine ad (by simp(disch:=omega) only[uB,uT,iA,Nat.zero_add,(gb h23).ld (i:=11) rfl aJ rfl ay];exact rfl) ?_)
                 refine au (h23.qa ho.wri (n:=c.code) (by omega)) ?_ ?_
                 ·rintro r v24 ⟨v24',e24,h24⟩
                  cases e24
                  refine uL ?_
                  refine uH ?_
                  have l24:(S23.app [aW c.code]).len=S23.len+8:=by rw[aY];rfl
                  generalize hS24:(S23.app [aW c.code])=S24 at*
                  repeat(first|refine uS ?_ |refine aa rfl ?_ |refine ad (by simp(disch:=omega) only[uB,uT,eE,Nat.zero_add,gx h24];exact rfl) ?_)
                  refine au (h24.qa ho.wri (n:=(c.rows.length:Int)) (by omega)) ?_ ?_
                  ·rintro r v25 ⟨v25',e25,h25⟩
                   cases e25
                   refine uL ?_
                   have l25:(S24.app [aW (c.rows.length:Int)]).len=S24.len+8:=by rw[aY];rfl
                   generalize hS25:(S24.app [aW (c.rows.length:Int)])=S25 at*
                   refine eH ?_
                   refine cV ?_
                   refine jY (fun L s'=>L=[(1, .ptr (some (s.nx,0))),(4, .ptr (some (b,0)))]∧WS s3 H b s' (S25.app (c.rows.map cU).flatten)) ?_ ?_
                   ·refine uG ?_
                    let I:Nat→Sl→St→Prop:=fun i L s'=>WS s3 H b s' (S25.app ((c.rows.take i).map cU).flatten)∧i≤c.rows.length∧L=[(1, .ptr (some (s.nx,0))),(4, .ptr (some (b,0))),(8, .int .i64 (i:Int))]
                    refine WL.less (M:=[(1, .ptr (some (s.nx,0))),(4, .ptr (some (b,0))),(8, .int .i64 ((0:Nat):Int))]) ?_ rfl
                    refine bm I (fun i=>c.rows.length- i) ?_ c.rows.length 0 _ _ (by simp) ⟨h25,Nat.zero_le _,rfl⟩
                    rintro i L u1 ⟨g1,hi,rfl⟩
                    repeat(first|refine uS ?_ |refine aa rfl ?_ |refine ad (by simp(disch:=omega) only[uB,uT,eE,Nat.zero_add,gx g1];exact rfl) ?_)
                    refine uJ [1,4,8,143] ?_
                    refine ae rfl rfl (fun hc2=>?_) (fun hc2=>?_)
                    ·simp at hc2
                     obtain⟨q,hq⟩:∃q,c.rows[i]? =some q:=⟨_,List.getElem?_eq_getElem (by omega)⟩
                     obtain⟨w,hw1,hws,hwz⟩:=sJ hall hq
                     obtain⟨aq,cq,xq,rfl,_⟩:=hws.ex
                     rw[List.length_map] at hws hwz hw1
                     have row:∀ {s' S'},WS s3 H b s' S'→∃b5 off5,ax=some (b5,off5,1)∧aO X 74 (.ptr (some (b5,off5+i))) s'=some (.old (.slc aq q.length cq xq)):=fun hx=>by
                      obtain⟨b5,off5,c5,x5,t5,n5,e5,_,k2,k3⟩:=((hs0.mod hm03 (fun _ _ h=>h)).mod hx.m (fun d hd=>hzz' d (hzx d hd))).at (i:=i) (r:=[.slc aq q.length cq xq]) (by rw[List.getElem?_map,hw1];rfl)
                      rw[List.length_map,hvl,ex] at e5
                      cases e5
                      have k4:=fO k3
                      rw[Nat.mul_one] at k4
                      exact⟨b5,off5,rfl,aj jz rfl fJ k2 k4⟩
                     obtain⟨b5,off5,rfl,lrow1⟩:=row g1
                     have lrow:∀ {s' S'},WS s3 H b s' S'→aO X 74 (.ptr (some (b5,off5+i))) s'=some (.old (.slc aq q.length cq xq)):=fun hx=>by
                      obtain⟨b6,off6,h8,h9⟩:=row hx
                      cases h8;exact h9
                     have hqm:=hok.rows q (List.mem_of_getElem? hq)
                     have hql:q.length≤aN (cg c):=hr2 q (List.mem_of_getElem? hq)
                     have hlt:=cY cU c.rows i hq
                     have hft:=fD cU c.rows i hq
                     have hlq:aN (cU q)=8+aN (q.map gR).flatten:=by rw[cU,bO];rfl
                     have hlS:(S25.app ((c.rows.take i).map cU).flatten).len=S25.len+aN ((c.rows.take i).map cU).flatten:=aY _ _
                     generalize hTT:S25.app ((c.rows.take i).map cU).flatten=TT at*
                     repeat(first|refine uS ?_ |refine aa rfl ?_ |refine ad (by simp(disch:=omega) only[uB,uT,eE,Nat.zero_add,gx g1,aT fS fJ,Nat.mul_one,lrow g1,Int.toNat_natCast];exact rfl) ?_)
                     refine au (g1.qa ho.wri (n:=(q.length:Int)) (by omega)) ?_ ?_
                     ·rintro r u2 ⟨u2',e2,g2⟩
                      cases e2
                      refine uL ?_
                      refine uG ?_
                      let J:Nat→Sl→St→Prop:=fun k L s'=>WS s3 H b s' ((TT.app [aW (q.length:Int)]).app ((q.take k).map gR).flatten)∧k≤q.length∧L=[(1, .ptr (some (s.nx,0))),(4, .ptr (some (b,0))),(8, .int .i64 (i:Int)),(9, .int .i64 (k:Int))]
                      refine WL.less (M:=[(1, .ptr (some (s.nx,0))),(4, .ptr (some (b,0))),(8, .int .i64 (i:Int)),(9, .int .i64 ((0:Nat):Int))]) ?_ rfl
                      refine bm J (fun k=>q.length- k) ?_ q.length 0 _ _ (by simp) ⟨g2,Nat.zero_le _,rfl⟩
                      rintro k L u4 ⟨g4,hk,rfl⟩
                      repeat(first|refine uS ?_ |refine aa rfl ?_ |refine ad (by simp(disch:=omega) only[uB,uT,eE,Nat.zero_add,gx g4,aT fS fJ,Nat.mul_one,lrow g4,Int.toNat_natCast];exact rfl) ?_)
                      refine uJ [1,4,8,9,161] ?_
                      refine ae rfl rfl (fun hc4=>?_) (fun hc4=>?_)
                      ·simp at hc4
                       obtain⟨v,hv⟩:∃v,q[k]? =some v:=⟨_,List.getElem?_eq_getElem (by omega)⟩
                       obtain⟨b6,off6,c6,x6,t6,n6,e6,_,j2,j3⟩:=((hws.mod hm03 (fun _ _ h=>h)).mod g4.m fun d hd=>hzz' d (hwz d hd)).at (i:=k) (r:=vl v) (by rw[List.getElem?_map,hv];rfl)
                       rw[List.length_map] at e6
                       cases e6
                       have hvok:=hqm v (List.mem_of_getElem? hv)
                       have hlt3:=cY gR q k hv
                       have hft3:=fD gR q k hv
                       have hS4:((TT.app [aW (q.length:Int)]).app ((q.take k).map gR).flatten).len=TT.len+8+aN ((q.take k).map gR).flatten:=by rw[aY,aY];rfl
                       generalize hVV:(TT.app [aW (q.length:Int)]).app ((q.take k).map gR).flatten=VV at*
                       repeat(first|refine uS ?_ |refine aa rfl ?_ |refine ad (by simp(disch:=omega) only[uB,uT,eE,Nat.zero_add,gx g4,aT fS fJ,Nat.mul_one,lrow g4,Int.toNat_natCast,aT jz dL,cG fH rfl dL j2 j3];exact rfl) ?_)
                       refine au (By ho.wri g4 hvok (by omega)) ?_ ?_
                       ·rintro r u6 ⟨u6',e8,g6⟩
                        cases e8
                        refine uL ?_
                        refine uG ?_
                        refine aM (k+1) [(1, .ptr (some (s.nx,0))),(4, .ptr (some (b,0))),(8, .int .i64 (i:Int)),(9, .int .i64 ((k+1:Nat):Int))] ⟨?_,by omega,rfl⟩ (by show q.length- (k+1)<q.length- k;omega) (by simp[aI,aD])
                        rw[hft3,bw,hVV]
                        exact g6
                       ·rintro r s' ⟨_,e2,_⟩
                        cases e2
                      ·simp at hc4
                       have:k=q.length:=by omega
                       subst this
                       rw[List.take_length] at g4
                       refine uG ?_
                       refine aM (i+1) [(1, .ptr (some (s.nx,0))),(4, .ptr (some (b,0))),(8, .int .i64 ((i+1:Nat):Int))] ⟨?_,by omega,rfl⟩ (by show c.rows.length- (i+1)<c.rows.length- i;omega) (by simp[aI,aD])
                       rw[hft,bw,hTT]
                       exact g4
                     ·rintro r s' ⟨_,e2,_⟩
                      cases e2
                    ·simp at hc2
                     have:i=c.rows.length:=by omega
                     subst this
                     rw[List.take_length] at g1
                     refine uG ?_
                     exact dH [(1, .ptr (some (s.nx,0))),(4, .ptr (some (b,0)))] ⟨rfl,g1⟩ (by simp[aI,aD])
                   ·rintro L u9 ⟨rfl,h9⟩
                    have hS9:S25.app (c.rows.map cU).flatten=bE.app (cg c):=by
                     rw[cg,bw,hT7,←hS25,←hS24,←hS23,←hS22,←hS21,←hS20,jg];rfl
                    rw[hS9] at h9
                    have henc:(bE.app (cg c)).len=aN (cg c):=by rw[aY];exact Nat.zero_add _
                    have henc2:oO c=bE.app (cg c):=rfl
                    rw[←henc2] at h9 henc
                    generalize hee:oO c=EE at*
                    obtain⟨H9,w9,_⟩:=h9.w
                    obtain⟨y9,k9,b9,_⟩:=w9.ex
                    obtain⟨a9,c9,x9,e9⟩:=b9.slc
                    have hconv:=b9.str (X:=X) cJ aE gT
                    rw[e9] at k9 hconv
                    have hsl:=nt EE
                    repeat(first|refine uS ?_ |refine aa rfl ?_ |refine ad (by simp(disch:=omega) only[uB,uT,bN,qi,Nat.zero_add,k9.ld (i:=0) rfl cJ rfl cP];exact rfl) ?_)
                    refine uJ [1,4,179] ?_
                    refine ae rfl rfl (fun hc2=>?_) (fun hc2=>?_)
                    ·repeat(first|refine uS ?_ |refine aa rfl ?_ |refine ad (by simp(disch:=omega) only[uB,uT,bn];exact rfl) ?_)
                     refine ai rfl ?_
                     have:¬(iY (oO c)).len≤20000:=by
                      simp at hc2
                      rw[hee,hsl];omega
                     exact⟨_,by unfold gu;rw[if_pos hmay,if_neg this];rfl,fin h9⟩
                    ·have:(iY (oO c)).len≤20000:=by
                      simp at hc2
                      rw[hee,hsl];omega
                     repeat(first|refine uS ?_ |refine aa rfl ?_ |refine ad (by simp(disch:=omega) only[uB,uT,bN,qi,Nat.zero_add,k9.ld (i:=0) rfl cJ rfl cP,hconv];exact rfl) ?_)
                     refine au (CO ho.sl (t:=EE) (by omega)) ?_ ?_
                     ·rintro r s5 ⟨s5',e,hm5⟩
                      cases e
                      refine uL ?_
                      refine uG ?_
                      refine ai rfl ?_
                      exact⟨_,by unfold gu;rw[if_pos hmay,if_pos this,hee];rfl,(fin h9).trans hm5 (fun _ _ h=>h)⟩
                     ·rintro r s' ⟨_,e,_⟩
                      cases e
                  ·rintro r s' ⟨_,e2,_⟩
                   cases e2
                 ·rintro r s' ⟨_,e2,_⟩
                  cases e2
                ·rintro r s' ⟨_,e2,_⟩
                 cases e2
               ·rintro r s' ⟨_,e2,_⟩
                cases e2
              ·rintro r s' ⟨_,e2,_⟩
               cases e2
             ·rintro r s' ⟨_,e2,_⟩
              cases e2
           ·rintro r s' ⟨_,e2,_⟩
            cases e2
         ·rintro r s' ⟨_,e2,_⟩
          cases e2
       ·rintro r s' ⟨_,e2,_⟩
        cases e2
      ·rintro r s' ⟨_,e2,_⟩
       cases e2
     ·rintro r s' ⟨_,e2,_⟩
      cases e2
    ·rintro r s' ⟨_,e2,_⟩
     cases e2
   ·rintro r s' ⟨_,e2,_⟩
    cases e2
 ·rintro r s' ⟨_,e,_⟩
  cases e
end
end Go.Proofs.Ytofohkdkpbigiaa
end
section
namespace Go.Proofs.Ytofohkdkpbigiaa
open Go.Am
set_option maxRecDepth 10000
set_option maxHeartbeats 1000000
set_option linter.unusedSimpArgs false
def ap:List Str→Str→Str
 |[],R=>R
 |a::l,R=>a.cat (ap l R)
theorem lj (l m:List Str)(R:Str):ap (l++m) R=ap l (ap m R):=by
 induction l with
 |nil=>rfl
 |cons a l ih=>show a.cat (ap (l++m) R)=a.cat (ap l (ap m R));rw[ih]
theorem I6:∀ (l:List Str) (S:Str),S.app l=S.cat (ap l bE)
 |[],S=>(rn S).symm
 |a::l,S=>by
  show(S.cat a).app l=S.cat (a.cat (ap l bE))
  rw[I6 l,sS]
theorem q8 (l:List Str):bE.app l=ap l bE:=by rw[I6,K2]
theorem kf:∀ (l:List Str) (R:Str),(ap l R).len=aN l+R.len
 |[],R=>by rw[F9];exact(Nat.zero_add _).symm
 |a::l,R=>by show a.len+(ap l R).len=_;rw[kf l,bO,Nat.add_assoc]
def okP (l:List Str):Prop:=∀a∈l,a.ok
theorem uX:okP []:=fun a h=>by cases h
theorem dR {a:Str}{l:List Str}(h:a.ok)(h':okP l):okP (a::l):=fun b hb=>by
 rcases List.mem_cons.mp hb with rfl|hb
 ·exact h
 ·exact h' b hb
theorem dU {l m:List Str}(h:okP l)(h':okP m):okP (l++m):=fun b hb=>by
 rcases List.mem_append.mp hb with hb|hb
 ·exact h b hb
 ·exact h' b hb
theorem gg {α:Type}{g:α→List Str}{l:List α}(h:∀a∈l,okP (g a)):okP (l.map g).flatten:=fun b hb=>by
 obtain⟨m,hm,hb⟩:=List.mem_flatten.mp hb
 obtain⟨a,ha,rfl⟩:=List.mem_map.mp hm
 exact h a ha b hb
theorem oE {R:Str}(hR:R.ok):∀ {l:List Str},okP l→(ap l R).ok
 |[],_=>hR
 |a::l,h=>kd (h a (List.mem_cons_self ..)) (oE hR fun b hb=>h b (List.mem_cons_of_mem _ hb))
def inI (n:Int):Prop:= -9223372036854775808≤n∧n≤9223372036854775807
theorem xW {a R:Str}(ha:a.ok)(hR:R.ok){n:Nat}(hn:n=a.len):dY n (a.cat R)=some (a,R):=by
 subst hn
 unfold dY
 rw[if_pos (by rw[jB];omega),ru ha hR,xH hR]
theorem Ag {n:Nat}{R:Str}(hn:n<18446744073709551616)(hR:R.ok):rdW ((wd n).cat R)=some (n,R):=by
 unfold rdW
 rw[xW (n:=8) (wG hn) hR rfl];rfl
theorem iP {n:Int}{R:Str}(hn:inI n)(hR:R.ok):rdN ((aW n).cat R)=some (n,R):=by
 unfold rdN
 rw[show aW n=wd (u64 n) from rfl,Ag (qR n) hR]
 simp only[DF hn.1 hn.2]
theorem Dz {n:Nat}{R:Str}(hn:n≤R.len)(hl:R.len≤1000000000)(hR:R.ok):rdC ((aW (n:Int)).cat R)=some (n,R):=by
 unfold rdC
 rw[iP ⟨by omega,by omega⟩ hR]
 simp only[Int.toNat_natCast]
 rw[if_neg (by omega)]
theorem qV {a R:Str}(ha:a.ok)(hl:a.len+R.len≤1000000000)(hR:R.ok):rdT (ap (cS a) R)=some (a,R):=by
 unfold rdT
 show(match rdC ((aW (a.len:Int)).cat (a.cat R)) with|some (n,T')=>dY n T'|none=>none)=_
 rw[Dz (by rw[jB];omega) (by rw[jB];omega) (kd ha hR)]
 exact xW ha hR rfl
theorem jq {a:Str}(ha:a.ok):okP (cS a):=dR (cQ _) (dR ha uX)
theorem Hr {α:Type}{f:Str→Option (α×Str)}{g:α→List Str}:∀ {l:List α} {R:Str},(∀a∈l,∀R:Str,R.ok→aN (g a)+R.len≤1000000000→f (ap (g a) R)=some (a,R))→(∀a∈l,okP (g a))→aN (l.map g).flatten+R.len≤1000000000→R.ok→rdM f l.length (ap (l.map g).flatten R)=some (l,R)
 |[],R,_,_,_,_=>rfl
 |a::l,R,hf,hg,hl,hR=>by
  rw[List.map_cons,List.flatten_cons,az] at hl
  have ih:=Hr (f:=f) (g:=g) (l:=l) (R:=R) (fun b hb=>hf b (List.mem_cons_of_mem _ hb)) (fun b hb=>hg b (List.mem_cons_of_mem _ hb)) (by omega) hR
  have hk:okP (l.map g).flatten:=gg fun b hb=>hg b (List.mem_cons_of_mem _ hb)
  rw[List.map_cons,List.flatten_cons,lj,List.length_cons]
  simp only[rdM,hf a (List.mem_cons_self ..) _ (oE hR hk) (by rw[kf];omega),ih]
theorem wD {α:Type}{f:Str→Option (α×Str)}{g:α→List Str}{l:List α}{R:Str}(hf:∀a∈l,∀R:Str,R.ok→aN (g a)+R.len≤1000000000→f (ap (g a) R)=some (a,R))(hg:∀a∈l,okP (g a))(h1:∀a,1≤aN (g a))(hl:aN (l.map g).flatten+R.len≤1000000000)(hR:R.ok):rdL f (ap (aW (l.length:Int)::(l.map g).flatten) R)=some (l,R):=by
 unfold rdL
 have h8:=nd g h1 l
 show(match rdC ((aW (l.length:Int)).cat (ap (l.map g).flatten R)) with|some (n,T1)=>rdM f n T1|none=>none)=_
 rw[Dz (by rw[kf];omega) (by rw[kf];omega) (oE hR (gg hg))]
 exact Hr hf hg hl hR
theorem Kz {v:Vl}(hv:sV v){R:Str}(hR:R.ok)(hl:aN (gR v)+R.len≤1000000000):m5 (ap (gR v) R)=some (v,R):=by
 obtain⟨v1,v2,v3,v4,v5,v6⟩:=hv
 rw[nT] at hl
 have ht:=oE hR (jq v1)
 have h2:((wd v.f).cat (ap (cS v.s) R)).ok:=kd (wG v2) ht
 have h3:((wd (u64 v.n)).cat ((wd v.f).cat (ap (cS v.s) R))).ok:=kd (wG (qR _)) h2
 unfold m5
 rw[show ap (gR v) R=(aW v.kind).cat ((wd (u64 v.n)).cat ((wd v.f).cat (ap (cS v.s) R))) from by rw[gR,lj];rfl,iP ⟨v5,v6⟩ h3]
 simp only
 rw[Ag (qR v.n) h2]
 simp only
 rw[Ag v2 ht]
 simp only
 rw[qV v1 (by omega) hR]
 simp only[DF v3 v4]
theorem Mc {v:Vl}(hv:sV v):okP (gR v):=by
 unfold gR
 exact dU (dR (cQ _) (dR (cQ _) (dR (wG hv.2.1) uX))) (jq hv.1)
theorem B4 {r:List Vl}(hr:∀v∈r,sV v):okP (cU r):=dR (cQ _) (gg fun v h=>Mc (hr v h))
theorem Gx {r:List Vl}(hr:∀v∈r,sV v){R:Str}(hR:R.ok)(hl:aN (cU r)+R.len≤1000000000):kh (ap (cU r) R)=some (r,R):=by
 have h8:aN (cU r)=8+aN (r.map gR).flatten:=by rw[cU,bO];rfl
 exact wD (f:=m5) (g:=gR) (l:=r) (fun v hv R hR hl=>Kz (hr v hv) hR hl) (fun v hv=>Mc (hr v hv)) (fun v=>by rw[nT];omega) (by omega) hR
theorem ED {l:List (List Vl)}(hr:∀r∈l,∀v∈r,sV v){R:Str}(hR:R.ok)(hl:aN (dJ l)+R.len≤1000000000):jU (ap (dJ l) R)=some (l,R):=by
 have h8:aN (dJ l)=8+aN (l.map cU).flatten:=by rw[dJ,bO];rfl
 exact wD (f:=kh) (g:=cU) (l:=l) (fun v hv R hR hl=>Gx (hr v hv) hR hl) (fun v hv=>B4 (hr v hv)) (fun v=>by rw[cU,bO];show 1≤8+_;omega) (by omega) hR
theorem Gz {r:Str×Str}(h:r.1.ok∧r.2.ok):okP (eA r):=dU (jq h.1) (jq h.2)
theorem Jy {r:Str×Str}(h:r.1.ok∧r.2.ok){R:Str}(hR:R.ok)(hl:aN (eA r)+R.len≤1000000000):pZ (ap (eA r) R)=some (r,R):=by
 have hlq:aN (eA r)=8+r.1.len+(8+r.2.len):=by rw[eA,az,bg,bg]
 unfold pZ
 rw[eA,lj,qV h.1 (by rw[kf,bg];omega) (oE hR (jq h.2))]
 simp only
 rw[qV h.2 (by omega) hR]
theorem H7 {w:Str×Str×Bool}(h:w.1.ok∧w.2.1.ok):okP (en w):=dU (dU (jq h.1) (jq h.2)) (dR (cQ _) uX)
theorem Ki {w:Str×Str×Bool}(h:w.1.ok∧w.2.1.ok){R:Str}(hR:R.ok)(hl:aN (en w)+R.len≤1000000000):pz (ap (en w) R)=some (w,R):=by
 have hlq:aN (en w)=8+w.1.len+(8+w.2.1.len)+8:=by rw[en,az,az,bg,bg];rfl
 have hn:((aW (if w.2.2=true then 1 else 0)).cat R).ok:=kd (cQ _) hR
 unfold pz
 rw[en,lj,lj,show ap [aW (if w.2.2=true then 1 else 0)] R=(aW (if w.2.2=true then 1 else 0)).cat R from rfl,qV h.1 (by rw[kf,bg,jB];show _+(_+(8+_))≤_;omega) (oE hn (jq h.2))]
 simp only
 rw[qV h.2 (by rw[jB];show _+(8+_)≤_;omega) hn]
 simp only
 rw[iP (by split<;>exact⟨by decide,by decide⟩) hR]
 obtain⟨a,b,d⟩:=w
 cases d<;>rfl
structure OM (c:Cmd):Prop where
 kind:inI c.kind
 client:inI c.client
 seq:inI c.seq
 snap:inI c.snap
 dl:inI c.dl
 after:inI c.after
 held:inI c.held
 code:inI c.code
theorem HE {c:Cmd}(hok:nD c)(hn:OM c){R:Str}(hR:R.ok)(hl:aN (cg c)+R.len≤1000000000):gB (ap (cg c) R)=some (c,R):=by
 have hlen:aN (cg c)=aN (bJ c)+aN (dj c)+aN (fC c)+aN (jg c):=by simp only[cg,az]
 have hlk:aN (bJ c)=40+aN (c.keys.map cS).flatten:=by rw[bJ,az,eW];rfl
 have hlr:aN (dj c)=8+aN (c.ranges.map eA).flatten:=by rw[dj,bO];rfl
 have hlw:aN (fC c)=8+aN (c.writes.map en).flatten:=by rw[fC,bO];rfl
 have hle:aN (jg c)=24+(8+c.text.len)+(8+aN (dJ c.rows)):=by rw[jg,az,az,az,eW,bg];rfl
 let rZ:=ap (dJ c.rows) R
 let rY:=(aW c.code).cat rZ
 let rX:=ap (cS c.text) rY
 let rV3:=(aW c.held).cat rX
 let rV2:=(aW c.after).cat rV3
 let rV:=(aW c.dl).cat rV2
 let rU:=ap (aW (c.writes.length:Int)::(c.writes.map en).flatten) rV
 let rQ:=ap (aW (c.ranges.length:Int)::(c.ranges.map eA).flatten) rU
 let rK:=ap (aW (c.keys.length:Int)::(c.keys.map cS).flatten) rQ
 let r3:=(aW c.snap).cat rK
 let r2:=(aW c.seq).cat r3
 let r1:=(aW c.client).cat r2
 have kZ:rZ.ok:=oE hR (dR (cQ _) (gg fun r hr=>B4 (hok.rows r hr)))
 have kY:rY.ok:=kd (cQ _) kZ
 have kX:rX.ok:=oE kY (jq hok.text)
 have kV3:rV3.ok:=kd (cQ _) kX
 have kV2:rV2.ok:=kd (cQ _) kV3
 have kV:rV.ok:=kd (cQ _) kV2
 have kU:rU.ok:=oE kV (dR (cQ _) (gg fun w hw=>H7 (hok.writes w hw)))
 have kQ:rQ.ok:=oE kU (dR (cQ _) (gg fun w hw=>Gz (hok.ranges w hw)))
 have kK:rK.ok:=oE kQ (dR (cQ _) (gg fun w hw=>jq (hok.keys w hw)))
 have k3:r3.ok:=kd (cQ _) kK
 have k2:r2.ok:=kd (cQ _) k3
 have k1:r1.ok:=kd (cQ _) k2
 have lZ:rZ.len=aN (dJ c.rows)+R.len:=kf _ _
 have lY:rY.len=8+rZ.len:=rfl
 have lX:rX.len=8+c.text.len+rY.len:=by rw[←bg];exact kf _ _
 have lV:rV.len=8+(8+(8+rX.len)):=rfl
 have lU:rU.len=8+aN (c.writes.map en).flatten+rV.len:=by rw[←hlw];exact kf _ _
 have lQ:rQ.len=8+aN (c.ranges.map eA).flatten+rU.len:=by rw[←hlr];exact kf _ _
 have e0:ap (cg c) R=(aW c.kind).cat r1:=by
  simp only[cg,bJ,dj,fC,jg,lj];rfl
 rw[e0]
 unfold gB
 rw[iP hn.kind k1]
 simp only
 rw[show r1=(aW c.client).cat r2 from rfl,iP hn.client k2]
 simp only
 rw[show r2=(aW c.seq).cat r3 from rfl,iP hn.seq k3]
 simp only
 rw[show r3=(aW c.snap).cat rK from rfl,iP hn.snap kK]
 simp only
 unfold rdK
 rw[show rK=ap (aW (c.keys.length:Int)::(c.keys.map cS).flatten) rQ from rfl,wD (f:=rdT) (g:=cS) (fun a ha R hR hl=>qV (hok.keys a ha) (by rw[bg] at hl;omega) hR) (fun a ha=>jq (hok.keys a ha)) (fun a=>by rw[bg];omega) (by omega) kQ]
 simp only
 unfold rdQ
 rw[show rQ=ap (aW (c.ranges.length:Int)::(c.ranges.map eA).flatten) rU from rfl,wD (f:=pZ) (g:=eA) (fun a ha R hR hl=>Jy (hok.ranges a ha) hR hl) (fun a ha=>Gz (hok.ranges a ha)) (fun a=>by rw[eA,az,bg];omega) (by omega) kU]
 simp only
 unfold rdU
 rw[show rU=ap (aW (c.writes.length:Int)::(c.writes.map en).flatten) rV from rfl,wD (f:=pz) (g:=en) (fun a ha R hR hl=>Ki (hok.writes a ha) hR hl) (fun a ha=>H7 (hok.writes a ha)) (fun a=>by rw[en,az,az,bg];omega) (by omega) kV]
 simp only
 unfold rdV
 rw[show rV=(aW c.dl).cat rV2 from rfl,iP hn.dl kV2]
 simp only
 rw[show rV2=(aW c.after).cat rV3 from rfl,iP hn.after kV3]
 simp only
 rw[show rV3=(aW c.held).cat rX from rfl,iP hn.held kX]
 simp only
 unfold rdX
 rw[show rX=ap (cS c.text) rY from rfl,qV hok.text (by omega) kY]
 simp only
 unfold rdY
 rw[show rY=(aW c.code).cat rZ from rfl,iP hn.code kZ]
 simp only
 unfold rdZ
 rw[show rZ=ap (dJ c.rows) R from rfl,ED hok.rows hR (by omega)]
theorem Lh {c:Cmd}(hok:nD c):(oO c).ok:=by
 unfold oO
 rw[q8]
 refine oE oD ?_
 unfold cg bJ dj fC jg
 refine dU (dU (dU (dU (fun a ha=>?_) (gg fun w hw=>jq (hok.keys w hw))) (dR (cQ _) (gg fun w hw=>Gz (hok.ranges w hw)))) (dR (cQ _) (gg fun w hw=>H7 (hok.writes w hw)))) (dU (dU (fun a ha=>?_) (jq hok.text)) (dU (dR (cQ _) uX) (dR (cQ _) (gg fun r hr=>B4 (hok.rows r hr)))))
 ·obtain⟨n,_,rfl⟩:=List.mem_map.mp ha;exact cQ n
 ·obtain⟨n,_,rfl⟩:=List.mem_map.mp ha;exact cQ n
theorem OD {c:Cmd}(h:lN c=true):OM c:=by
 unfold lN lR ux cZ at h
 simp at h
 obtain⟨h1,h2,_⟩:=h
 constructor<;>exact⟨by omega,by omega⟩
theorem Et {c:Cmd}(h:(gu c).2=0):lN c=true∧(iY (oO c)).len≤20000∧(gu c).1=iY (oO c):=by
 unfold gu at*
 split at h
 ·split at h
  ·rename_i h1 h2
   rw[if_pos h1,if_pos h2]
   exact⟨h1,h2,rfl⟩
  ·cases h
 ·cases h
theorem BM {c:Cmd}(hok:nD c)(h:(gu c).2=0):tc (gu c).1=some c:=by
 obtain⟨h1,h2,h3⟩:=Et h
 have hle:(oO c).len=aN (cg c):=by unfold oO;rw[q8,kf];exact Nat.add_zero _
 rw[nt] at h2
 unfold tc
 rw[h3,Ck (Lh hok)]
 simp only
 rw[show oO c=ap (cg c) bE from q8 _,HE hok (OD h1) oD (by show _+0≤_;omega)]
 simp only
 rw[←q8,show bE.app (cg c)=oO c from rfl,if_pos ⟨h,by rw[h3];exact Str.gj _⟩]
end Go.Proofs.Ytofohkdkpbigiaa
end
section
namespace Go.Proofs.Ytofohkdkpbigiaa
open Go.Am
set_option maxRecDepth 10000
set_option maxHeartbeats 1000000
set_option linter.unusedSimpArgs false
theorem BB {k k':Str}{vs:List Ver}:∀ {al:Al},lkA (iH al k vs) k'=if k'.beq k=true then vs else lkA al k'
 |[]=>by
  simp only[iH,lkA]
  cases k'.beq k<;>rfl
 |(a,ws)::al=>by
  simp only[iH]
  cases h:k.beq a with
  |true=>
   have:=Str.o8 h
   subst this
   simp only[lkA]
   cases k'.beq k<;>rfl
  |false=>
   simp only[lkA]
   cases h2:k'.beq a with
   |true=>
    have:=Str.o8 h2
    subst this
    have:k'.beq k=false:=Str.beq_false.mpr (fun e=>Str.beq_false.mp h e.symm)
    rw[this];rfl
   |false=>exact BB
structure Wr (m m':SM)(t:Int)(k w:Str):Prop where
 room:m'.room=m.room
 size:m'.size=m.size+1
 last:m'.last=t
 all:∀k',lkA m'.all k'=if k'.beq k=true then lkA m.all k++[⟨t,w,false⟩] else lkA m.all k'
 ok:SOK m'
theorem CF {m m':SM}{t:Int}{k w:Str}(h:SOK m)(h1:1≤t)(h2:t<1099511627776)(hl:m.last≤t)(hne:lkA m.all k=[]∨fU (lkA m.all k)≠t)(hr:m.size<m.room)(hw:WrR t (k,w,false) m m'):Wr m m' t k w:=by
 have hok:=(CH h hw).1
 have hm:ui m t=true:=by simp[ui,h1,h2,hl]
 obtain⟨e,⟨h3,_⟩|⟨_,h3⟩⟩:=hw
 ·cases h3
 ·rcases h3 with⟨h4,_⟩|⟨_,h4⟩
  ·rw[hm] at h4;cases h4
  ·rcases h4 with⟨g1,g2,_⟩|⟨_,g,_⟩|⟨_,_,_,g1,g2,g3,g4,_⟩
   ·rcases hne with h|h
    ·exact absurd h g1
    ·exact absurd g2 h
   ·omega
   ·exact⟨g1,g2,g3,fun k'=>by rw[g4,BB],hok⟩
theorem zA {t:Int}{w:Str×Str×Bool}{m m':SM}(h:wT t [w] m m'):WrR t w m m':=by
 generalize hl:[w]=l at h
 cases h with
 |nil=>cases hl
 | @snoc l' w' _ m1 _ h1 h2=>
  cases l' with
  |nil=>
   simp only[List.nil_append,List.cons.injEq,and_true] at hl
   subst hl
   generalize hq:([]:List (Str×Str×Bool))=q at h1
   cases h1 with
   |nil=>exact h2
   | @snoc l2 w2 _ _ _ _ _=>cases l2<;>cases hq
  |cons a l2=>simp at hl
theorem tG {m:SM}(h:SOK m){lo hi:Str}{t:Int}:ka m lo hi t=true↔∃k,inK lo hi (k,bE)=true∧lkA m.all k≠[]∧t<fU (lkA m.all k):=by
 unfold ka
 rw[List.any_eq_true]
 constructor
 ·rintro⟨q,hq,ht⟩
  rw[List.mem_filter] at hq
  exact⟨q.1,hq.2,(h.keys q.1).mp ⟨q,hq.1,rfl⟩,by simpa using ht⟩
 ·rintro⟨k,h1,h2,h3⟩
  obtain⟨q,hq,rfl⟩:=(h.keys k).mpr h2
  exact⟨q,List.mem_filter.mpr ⟨hq,h1⟩,by simpa using h3⟩
theorem E8 {m m':MM}{c:Cmd}{t code:Int}(h:yH m c t m' code)(hc:c.client=0)(hk:c.kind≠0):code=lI m c t∧∃st,((code=0∧wT t c.writes m.st st)∨(code≠0∧st=m.st))∧m'={m with st:=st}:=by
 have ht:kq m c=false:=by unfold kq;rw[hc];rfl
 rcases h with⟨h1,_⟩|⟨_,h1,_⟩|⟨_,_,h1,st,h2,h3⟩
 ·rw[ht] at h1;cases h1
 ·exact absurd h1 hk
 ·refine⟨h1,st,h2,?_⟩
  rw[h3,hc];rfl
theorem Ak {m m':MM}{t:Int}{c:Cmd}{d:Dn}(h:DoR m t c 0 m' d)(hc:c.client=0)(hk:c.kind≠0)(h1:m.time<t)(h2:t<1099511627776):∃st,d=⟨c.client,c.seq,t,lI m c t⟩∧((lI m c t=0∧wT t c.writes m.st st)∨(lI m c t≠0∧st=m.st))∧m'={m with st:=st,time:=t,dN:=m.dN++[d]}:=by
 rcases h with⟨h3,_⟩|⟨_,_,m1,code,⟨_,hd⟩|⟨h3,_⟩,h4,h5⟩
 ·omega
 ·obtain⟨e1,st,e2,e3⟩:=E8 hd hc hk
  subst e1 e3
  exact⟨st,h4,e2,h5⟩
 ·exact absurd rfl h3
def sA:Str:=⟨1,97⟩
def sB1:Str:=⟨1,98⟩
def sC:Str:=⟨1,99⟩
def sZ:Str:=⟨1,122⟩
def sBB:Str:=⟨2,25186⟩
theorem Gj {l:List Ver}{t:Int}{w:Str}:pY (l++[⟨t,w,false⟩]) t=(w,true):=by
 unfold pY
 rw[List.length_append]
 show xL _ t (l.length+1)=_
 simp only[xL,List.getElem?_concat_length,Int.le_refl,if_true,Bool.not_false]
def tC1:Cmd:=⟨2,0,0,0,[],[],[(sA,⟨1,49⟩,false)],0,0,0,bE,0,[]⟩
def tC2 (k:Str):Cmd:=⟨2,0,0,4,[],[],[(k,⟨1,50⟩,false)],0,0,0,bE,0,[]⟩
def tC3 (dl af:Int):Cmd:=⟨2,0,0,4,[sA],[(sB1,sC)],[(sZ,⟨1,57⟩,false)],dl,af,0,bE,0,[]⟩
def kg (n:Nat):Str:=if n % 3=0 then sA else if n % 3=1 then sB1 else sBB
def wQ (t dl af:Int)(b:Bool):Int:=if dl≠0∧dl<t then 14 else if t<af then 15 else if b=true then 13 else 0
theorem tA {m:SM}{c:Cmd}{k w:Str}(h:c.writes=[(k,w,false)]):mV m c=1:=by
 unfold mV
 rw[h]
 simp
theorem lH (n:Nat):kg n=sA∨kg n=sB1∨kg n=sBB:=by
 unfold kg
 split
 ·exact .inl rfl
 ·split
  ·exact .inr (.inl rfl)
  ·exact .inr (.inr rfl)
theorem F4 {m1 m2 m3:MM}{d1 d2 d3:Dn}{t dl af:Int}{b:Bool}{n:Nat}(ht:10≤t)(ht2:t≤265)(hdl:0≤dl)(h1:DoR ⟨500,0,zP 500,[],[]⟩ 3 tC1 0 m1 d1)
  (h2:(b=true∧DoR m1 5 (tC2 (kg n)) 0 m2 d2)∨(b=false∧m2=m1))(h3:DoR m2 t (tC3 dl af) 0 m3 d3):
  d3.code=wQ t dl af b∧(pY (lkA m3.st.all sZ) t).2=decide (wQ t dl af b=0):=by
 have k0:SOK (zP 500):=EA (by decide) (by decide)
 obtain⟨st1,_,q1,e1⟩:=Ak h1 rfl (by decide) (by decide) (by decide)
 have c1:lI ⟨500,0,zP 500,[],[]⟩ tC1 3=0:=by
  unfold lI
  rw[tA (c:=tC1) rfl]
  rfl
 rcases q1 with⟨_,q1⟩|⟨q1,_⟩
 rotate_left
 ·exact absurd c1 q1
 have w1:=CF k0 (by decide) (by decide) (by decide) (.inl rfl) (by decide) (zA q1)
 have r1:st1.room=500:=w1.room
 have z1:st1.size=1:=w1.size
 have l1:st1.last=3:=w1.last
 have a1:∀k',lkA st1.all k'=if k'.beq sA=true then[⟨3,⟨1,49⟩,false⟩] else[]:=fun k'=>by rw[w1.all k'];rfl
 subst e1
 have key:∃stt,m2.st=stt∧m2.time<10∧m2.room=500∧SOK stt∧stt.room=500∧stt.size≤2∧stt.last≤5∧lkA stt.all sZ=[]∧wO stt (tC3 dl af)=b:=by
  have hchg:∀ {st:SM},wO st (tC3 dl af)=(decide (4<fU (lkA st.all sA))||ka st sB1 sC 4):=fun{st}=>by
   unfold wO
   show(([sA].any fun k=>decide (4<fU (lkA st.all k)))|| ([(sB1,sC)].any fun r=>ka st r.1 r.2 4))=_
   simp only[List.any_cons,List.any_nil,Bool.or_false]
  rcases h2 with⟨rfl,h2⟩|⟨rfl,rfl⟩
  ·obtain⟨st2,_,q2,e2⟩:=Ak h2 rfl (by show(2:Int)≠0;decide) (by show(3:Int)<5;decide) (by decide)
   have c2:lI {(⟨500,0,zP 500,[],[]⟩:MM) with st:=st1,time:=3,dN:=[]++[d1]} (tC2 (kg n)) 5=0:=by
    unfold lI
    rw[tA (c:=tC2 (kg n)) rfl]
    show(if(5:Int)≤4 then(1:Int) else if(0:Int)<0∧(0:Int)<5 then 14 else if(5:Int)<0 then 15 else if false=true then 13 else if(500:Int)- st1.size<((1:Nat):Int) then 4 else 0)=0
    rw[z1];rfl
   rcases q2 with⟨_,q2⟩|⟨q2,_⟩
   rotate_left
   ·exact absurd c2 q2
   have hlt:∀k,fU (lkA st1.all k)≠5:=fun k=>by
    rw[a1];split<;>decide
   have w2:=CF w1.ok (by decide) (by decide) (by rw[l1];decide) (.inr (hlt _)) (by rw[r1,z1];decide) (zA q2)
   have a2:∀k',lkA st2.all k'=if k'.beq (kg n)=true then lkA st1.all (kg n)++[⟨5,⟨1,50⟩,false⟩] else lkA st1.all k':=w2.all
   subst e2
   refine⟨st2,rfl,by show(5:Int)<10;decide,rfl,w2.ok,w2.room.trans r1,by rw[w2.size,z1];decide,by rw[w2.last];exact Int.le_refl _,?_,?_⟩
   ·have hz:sZ.beq (kg n)=false:=by rcases lH n with h|h|h<;>rw[h]<;>rfl
    rw[a2,hz,if_neg (by decide),a1];rfl
   ·rw[hchg]
    have hk:fU (lkA st2.all (kg n))=5:=by
     rw[a2,Str.gj,if_pos rfl];unfold fU;simp
    have hk2:lkA st2.all (kg n)≠[]:=by
     rw[a2,Str.gj,if_pos rfl];simp
    rcases lH n with h|h|h
    ·rw[←h,hk];rfl
    ·have:ka st2 sB1 sC 4=true:=(tG w2.ok).mpr ⟨kg n,by rw[h];rfl,hk2,by rw[hk];decide⟩
     rw[this];exact Bool.or_true _
    ·have:ka st2 sB1 sC 4=true:=(tG w2.ok).mpr ⟨kg n,by rw[h];rfl,hk2,by rw[hk];decide⟩
     rw[this];exact Bool.or_true _
  ·refine⟨st1,rfl,by show(3:Int)<10;decide,rfl,w1.ok,r1,by rw[z1];decide,by rw[l1];decide,by rw[a1];rfl,?_⟩
   rw[hchg]
   have hA:fU (lkA st1.all sA)=3:=by rw[a1];rfl
   have hS:ka st1 sB1 sC 4=false:=by
    cases hq:ka st1 sB1 sC 4 with
    |false=>rfl
    |true=>
     obtain⟨k,_,_,h3⟩:=(tG w1.ok).mp hq
     rw[a1] at h3
     split at h3<;>exact absurd h3 (by decide)
   rw[hA,hS];rfl
 obtain⟨stt,es,et,er,ok,rr,zz,ll,lz,ch⟩:=key
 obtain⟨st3,hd,q3,e3⟩:=Ak h3 rfl (by show(2:Int)≠0;decide) (by omega) (by omega)
 rw[es] at q3
 have hn:mV stt (tC3 dl af)=1:=tA rfl
 have hcode:lI m2 (tC3 dl af) t=wQ t dl af b:=by
  unfold lI wQ
  rw[es,ch,hn,er]
  have s1:¬t≤(tC3 dl af).snap:=by show ¬t≤4;omega
  have s2:¬((500:Int)- stt.size<((1:Nat):Int)):=by omega
  rw[if_neg s1,if_neg s2]
  show(if 0<dl∧dl<t then(14:Int) else if t<af then 15 else if b=true then 13 else 0)=_
  by_cases h0:dl=0
  ·subst h0;simp
  ·have:0<dl:=by omega
   simp[h0,this]
 refine⟨by rw[hd];exact hcode,?_⟩
 subst e3
 rw[hcode] at q3
 rcases q3 with⟨h0,q3⟩|⟨h0,rfl⟩
 ·have w3:=CF ok (by omega) (by omega) (by omega) (.inl lz) (by omega) (zA q3)
  show(pY (lkA st3.all sZ) t).2=_
  rw[w3.all,Str.gj,if_pos rfl,Gj,h0];rfl
 ·show(pY (lkA st3.all sZ) t).2=_
  rw[lz]
  simp[pY,xL,h0]
end Go.Proofs.Ytofohkdkpbigiaa
end
section
namespace Go.Proofs.Ytofohkdkpbigiaa
open Go.Am
set_option maxRecDepth 10000
set_option maxHeartbeats 1000000
set_option linter.unusedSimpArgs false
section
variable {O:bk}
theorem Gc:X.fns.get 8=some Try.f8:=by kernel_rfl
theorem NC:X.fns.get 6=some Try.f6:=by kernel_rfl
theorem Bp {t:Int}{d:Str}:bf X 31 [(0, .int .i64 t),(1, .str d)]=some (.pure (.agg [.int .i64 t, .str d])):=by
 simp only[bf,wX,zO,cI,ay,aF,bZ,cO,AV.cells,db,eL]
 rfl
theorem Gh (ho:O 6=none){s:St}{n:Int}:Ca X O (.fn 6) [.int .i64 n] s fun r=>r= .ret (.int .i64 n) s:=by
 refine aZ ho NC rfl ?_
 unfold aB aB
 refine uG ?_
 refine ai rfl ?_
 rfl
theorem qG (ho:I7 O)(he:O 8=none){s:St}(htd:Tidy s){c:Cmd}{z:CL}(hc:p9 s c z)(hl:aN (cg c)≤1000000){t:Int}:
  Ca X O (.fn 8) [.int .i64 t, .agg (cj c z)] s fun r=>∃s',r= .ret (.agg [.int .i64 t, .str (gu c).1]) s'∧Am.Mod No s s':=by
 refine aZ he Gc rfl ?_
 unfold aB aB aB
 (repeat(first|refine uS ?_ |refine aa rfl ?_));refine ad (by simp(disch:=omega) only[uB,uT,da (cs:=cj c z) hc.h.qz,bS zO rfl,AV.cells];exact rfl) ?_;(repeat(first|refine uS ?_ |refine aa rfl ?_))
 refine za fun s1 hn1 hm1 h1 h2=>?_
 repeat(first|refine uS ?_ |refine aa rfl ?_ |refine ad (by simp(disch:=omega) only[uB,uT,h1.all bY rfl cD];exact rfl) ?_)
 refine au (E3 ho (hm1.tidy htd) (hc.no hm1) hl) ?_ ?_
 ·rintro r s2 ⟨s2',e,hm2⟩
  cases e
  obtain⟨s3,e3,k3,hm3,n3⟩:=(h2.no hm2).Ae (X:=X) (t:=31) (m:=[.int .i64 t, .str (gu c).1]) rfl zm rfl
  refine uL ?_
  (repeat(first|refine uS ?_ |refine aa rfl ?_));refine ad (by simp(disch:=omega) only[uB,uT,Bp,e3];exact rfl) ?_;(repeat(first|refine uS ?_ |refine aa rfl ?_))
  refine ry rfl rfl (k3.all wX rfl zm) ⟨s3,rfl,(hm1.trans hm2 (fun _ _ h=>h)).trans hm3 (fun d hd e=>by omega)⟩
 ·rintro r s' ⟨_,e,_⟩
  cases e
theorem KE (ho:DY O){s:St}(htd:Tidy s){d:Str}(hd:d.len≤100000):OB O (M8 d) d s:=fun s1 hm=>
 (FB ho (hm.tidy htd) hd).mono fun r ⟨c,z,s',e,h1,h2,h3,h4,h5⟩=>⟨c,z,s',e,h1,h2.h,h4,h3,h5⟩
theorem vv (ho:DoO O)(hg:DY O){s:St}{p:AV}{m:MM}{y:jL}(h:MaR s p m y)(hk:MOK m)(htd:Tidy s)(hl:m.dN.length≤1000){t:Int}{c:Cmd}(hok:nD c)(hp:(gu c).2=0):
  Ca X O (.fn 7) [p, .agg [.int .i64 t, .str (gu c).1]] s fun r=>∃s' m' y' q,r= .ret (.agg (dn q)) s'∧MaR s' p m' y'∧DoR m t c 0 m' q∧Am.Mod y.C s s'∧y'.mb=y.mb∧y'.lb=y.lb∧(∀b,y'.C b→y.C b∨s.nx≤b):=by
 obtain⟨_,h2,h3⟩:=Et hp
 refine(Kv ho h hk htd hl (KE hg htd (by rw[h3];omega))).mono ?_
 rintro r ⟨s',m',y',c',e,q,h1,h4,h5,h6,h7⟩
 have hc:c'=c∧e=0:=by
  rcases h5 with⟨h,rfl⟩|⟨h,_⟩
  ·rw[BM hok hp] at h;cases h;exact⟨rfl,rfl⟩
  ·rw[BM hok hp] at h;cases h
 obtain⟨rfl,rfl⟩:=hc
 exact⟨s',m',y',q,h1,h4,h6,h7⟩
end
end Go.Proofs.Ytofohkdkpbigiaa
end
section
namespace Go.Am
section
variable {X:Ctx}{O:bk}{c:Code}{L:Sl}{D:List DE}{s:St}{Q:bV}{l0 l1 l2 cs zs:List AV}{n0 n1 n2 n3:Nat}{cc:Tr AV}
theorem Ka (hcc:stL cs 0 (Tr.of zs)=some cc)(h:∀s',s'.nx=s.nx+4→Mod No s s'→Bx s' s.nx l0→Bx s' (s.nx+1) l1→Bx s' (s.nx+2) l2→Bx s' (s.nx+3) cs→WL X O c L D s' Q):
  WL X O c L D {h:=((((s.h.put s.nx (.cells (Tr.of l0) n0)).put (s.nx+1) (.cells (Tr.of l1) n1)).put (s.nx+1+1) (.cells (Tr.of l2) n2)).put (s.nx+1+1+1) (.cells (Tr.of zs) n3)).put (s.nx+1+1+1) (.cells cc n3),nx:=s.nx+1+1+1+1,gl:=s.gl,sh:=s.sh} Q:=by
 let s1:St:={h:=s.h.put s.nx (.cells (Tr.of l0) n0),nx:=s.nx+1,gl:=s.gl,sh:=s.sh}
 let s2:St:={h:=s1.h.put (s.nx+1) (.cells (Tr.of l1) n1),nx:=s.nx+1+1,gl:=s.gl,sh:=s.sh}
 let s3:St:={h:=s2.h.put (s.nx+1+1) (.cells (Tr.of l2) n2),nx:=s.nx+1+1+1,gl:=s.gl,sh:=s.sh}
 have m3:Mod No s s3:=(((Mod.refl _ s).new _).new _).new _
 have b0:Bx s3 s.nx l0:=(Bx.box (s:=s)).new.new
 have b1:Bx s3 (s.nx+1) l1:=(Bx.box (s:=s1)).new
 have b2:Bx s3 (s.nx+2) l2:=Bx.box (s:=s2)
 obtain⟨h1,h2,h3⟩:=wI (s:=s3) (n:=n3) hcc
 exact h _ h2 (m3.trans h1 (fun _ _ h=>h)) (b0.no h1) (b1.no h1) (b2.no h1) h3
theorem sY {a b:TypeId}{d:TypeDesc}{k:IntKind}{s:St}{n:Nat}(hu:X.und a=some d)(hb:X.und b=some (.int .i64))(hn:n≤1000000):bG X a b (.int k (n:Int)) s=some (.pure (.int .i64 (n:Int))):=by
 simp only[bG,hu,hb]
 rw[Dc (by omega) (by omega)]
end
end Go.Am
end
