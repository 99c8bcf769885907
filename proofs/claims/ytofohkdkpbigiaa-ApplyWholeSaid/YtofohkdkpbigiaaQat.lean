/-
  A part of the texts.
-/
import Derived.Test.YtofohkdkpbigiaaQas
section
namespace Go.Proofs.Ytofohkdkpbigiaa
open Go.Am
set_option maxRecDepth 10000
set_option maxHeartbeats 1000000
set_option linter.unusedSimpArgs false
def dA (n:Int):Bool:= !decide (n<0)&& !decide (1099511627776<n)
def dZ (r:List Vl):Bool:=r.all fe&&decide (r.length≤8)
def mi (c:Cmd):Bool:= !decide (c.kind<0)&& (!decide (5<c.kind)&& (!decide (c.client<0)&& (!decide (100<c.client)&& (!decide ((1000:Int)<(c.text.len:Int))&& (!decide (c.code<0)&& (!decide (21<c.code)&& !decide ((200:Int)<(c.rows.length:Int))))))))
def wi (c:Cmd):List Int:=[c.seq,c.snap,c.dl,c.after,c.held]
def lv (c:Cmd):Bool:=mi c&& ((wi c).all dA&& (c.rows.all dZ&& (gq c&&gE c)))
section
variable {O:bj}
theorem LZ:X.fns.get 49=some Try.f49:=by kernel_rfl
structure Mz (O:bj):Prop where
 val:OD O
 short:O 81=none
 reads:O 68=none
 writes:O 69=none
 may:O 49=none
theorem Gh (ho:Mz O){s:St}(htd:Tidy s){c:Cmd}{z:CL}(hc:jI s c z){Z:Nat→Prop}(hr:oP s Z z.x c.rows)(hok:sc c)(hrl:c.rows.length≤1000000)(hrl2:∀r∈c.rows,r.length≤1000000):
  Ca X O (.fn 49) [.agg (bY c z)] s fun r=>∃s',r= .ret (.bool (lv c)) s'∧Am.Mod No s s':=by
 obtain⟨vs,hs,_,hall⟩:=hr.ex
 have hvl:=hall.len
 obtain⟨ax,cx,xx,ex,_⟩:=hs.ex
 rw[List.length_map,hvl] at ex
 refine bb ho.may LZ rfl ?_
 unfold aD aD
 refine fO ?_;refine ad (by simp(disch:=omega) only[uB,uT,cX (cs:=bY c z) hc.qI];exact rfl) ?_;refine dR ?_;refine cJ ?_
 refine eE fun s1 hn1 hm1 hb1=>?_
 have gx:∀ {s'},Am.Mod No s1 s'→aO X 38 (.ptr (some (s.nx,12))) s'=some (.old (.slc ax c.rows.length cx xx)):=fun hm=>by rw[←ex];exact(hb1.no hm).ld (i:=12) rfl eO rfl jt
 have gx1:=gx (Mod.refl _ s1)
 have l0:aO X 3 (.ptr (some (s.nx,0))) s1=some (.old (.int .i64 c.kind)):=hb1.ld (i:=0) rfl aN rfl ay
 have l1:aO X 3 (.ptr (some (s.nx,1))) s1=some (.old (.int .i64 c.client)):=hb1.ld (i:=1) rfl aN rfl ay
 have l10:aO X 9 (.ptr (some (s.nx,10))) s1=some (.old (.str c.text)):=hb1.ld (i:=10) rfl aE rfl aF
 have l11:aO X 3 (.ptr (some (s.nx,11))) s1=some (.old (.int .i64 c.code)):=hb1.ld (i:=11) rfl aN rfl ay
 rw[ex] at hs
 refine eL (fun L s'=>L=[(1, .ptr (some (s.nx,0)))]∧s1=s'∧mi c=true) ?_ ?_
 ·have hres:mi c=false→lv c=false:=fun h=>by unfold lv;rw[h];rfl
  cases d0:decide (c.kind<0) with
  |true=>
   repeat(first|refine uS ?_ |refine aa rfl ?_ |refine ad (by simp(disch:=omega) only[uB,uT,jD,gT,ie,iV,dI,Nat.zero_add,l0,l1,l10,l11,gx1,aJ aE,aP,d0];exact rfl) ?_)
   refine uJ [1,48] ?_
   refine ae rfl rfl (fun hc3=>?_) (fun hc3=>?_)
   ·refine uG ?_
    refine ai rfl ?_
    exact⟨s1,by rw[hres (by unfold mi;simp only[d0,Bool.not_true,Bool.not_false,Bool.true_and,Bool.false_and])];rfl,hm1⟩
   ·cases hc3
  |false=>
   cases d1:decide (5<c.kind) with
   |true=>
    repeat(first|refine uS ?_ |refine aa rfl ?_ |refine ad (by simp(disch:=omega) only[uB,uT,jD,gT,ie,iV,dI,Nat.zero_add,l0,l1,l10,l11,gx1,aJ aE,aP,d0,d1];exact rfl) ?_)
    refine uJ [1,48] ?_
    refine ae rfl rfl (fun hc3=>?_) (fun hc3=>?_)
    ·refine uG ?_
     refine ai rfl ?_
     exact⟨s1,by rw[hres (by unfold mi;simp only[d0,d1,Bool.not_true,Bool.not_false,Bool.true_and,Bool.false_and])];rfl,hm1⟩
    ·cases hc3
   |false=>
    cases d2:decide (c.client<0) with
    |true=>
     repeat(first|refine uS ?_ |refine aa rfl ?_ |refine ad (by simp(disch:=omega) only[uB,uT,jD,gT,ie,iV,dI,Nat.zero_add,l0,l1,l10,l11,gx1,aJ aE,aP,d0,d1,d2];exact rfl) ?_)
     refine uJ [1,48] ?_
     refine ae rfl rfl (fun hc3=>?_) (fun hc3=>?_)
     ·refine uG ?_
      refine ai rfl ?_
      exact⟨s1,by rw[hres (by unfold mi;simp only[d0,d1,d2,Bool.not_true,Bool.not_false,Bool.true_and,Bool.false_and])];rfl,hm1⟩
     ·cases hc3
    |false=>
     cases d3:decide (100<c.client) with
     |true=>
      repeat(first|refine uS ?_ |refine aa rfl ?_ |refine ad (by simp(disch:=omega) only[uB,uT,jD,gT,ie,iV,dI,Nat.zero_add,l0,l1,l10,l11,gx1,aJ aE,aP,d0,d1,d2,d3];exact rfl) ?_)
      refine uJ [1,48] ?_
      refine ae rfl rfl (fun hc3=>?_) (fun hc3=>?_)
      ·refine uG ?_
       refine ai rfl ?_
       exact⟨s1,by rw[hres (by unfold mi;simp only[d0,d1,d2,d3,Bool.not_true,Bool.not_false,Bool.true_and,Bool.false_and])];rfl,hm1⟩
      ·cases hc3
     |false=>
      cases d4:decide ((1000:Int)<(c.text.len:Int)) with
      |true=>
       repeat(first|refine uS ?_ |refine aa rfl ?_ |refine ad (by simp(disch:=omega) only[uB,uT,jD,gT,ie,iV,dI,Nat.zero_add,l0,l1,l10,l11,gx1,aJ aE,aP,d0,d1,d2,d3,d4];exact rfl) ?_)
       refine uJ [1,48] ?_
       refine ae rfl rfl (fun hc3=>?_) (fun hc3=>?_)
       ·refine uG ?_
        refine ai rfl ?_
        exact⟨s1,by rw[hres (by unfold mi;simp only[d0,d1,d2,d3,d4,Bool.not_true,Bool.not_false,Bool.true_and,Bool.false_and])];rfl,hm1⟩
       ·cases hc3
      |false=>
       cases d5:decide (c.code<0) with
       |true=>
        repeat(first|refine uS ?_ |refine aa rfl ?_ |refine ad (by simp(disch:=omega) only[uB,uT,jD,gT,ie,iV,dI,Nat.zero_add,l0,l1,l10,l11,gx1,aJ aE,aP,d0,d1,d2,d3,d4,d5];exact rfl) ?_)
        refine uJ [1,48] ?_
        refine ae rfl rfl (fun hc3=>?_) (fun hc3=>?_)
        ·refine uG ?_
         refine ai rfl ?_
         exact⟨s1,by rw[hres (by unfold mi;simp only[d0,d1,d2,d3,d4,d5,Bool.not_true,Bool.not_false,Bool.true_and,Bool.false_and])];rfl,hm1⟩
        ·cases hc3
       |false=>
        cases d6:decide (21<c.code) with
        |true=>
         repeat(first|refine uS ?_ |refine aa rfl ?_ |refine ad (by simp(disch:=omega) only[uB,uT,jD,gT,ie,iV,dI,Nat.zero_add,l0,l1,l10,l11,gx1,aJ aE,aP,d0,d1,d2,d3,d4,d5,d6];exact rfl) ?_)
         refine uJ [1,48] ?_
         refine ae rfl rfl (fun hc3=>?_) (fun hc3=>?_)
         ·refine uG ?_
          refine ai rfl ?_
          exact⟨s1,by rw[hres (by unfold mi;simp only[d0,d1,d2,d3,d4,d5,d6,Bool.not_true,Bool.not_false,Bool.true_and,Bool.false_and])];rfl,hm1⟩
         ·cases hc3
        |false=>
         cases d7:decide ((200:Int)<(c.rows.length:Int)) with
         |true=>
          repeat(first|refine uS ?_ |refine aa rfl ?_ |refine ad (by simp(disch:=omega) only[uB,uT,jD,gT,ie,iV,dI,Nat.zero_add,l0,l1,l10,l11,gx1,aJ aE,aP,d0,d1,d2,d3,d4,d5,d6,d7];exact rfl) ?_)
          refine uJ [1,48] ?_
          refine ae rfl rfl (fun hc3=>?_) (fun hc3=>?_)
          ·refine uG ?_
           refine ai rfl ?_
           exact⟨s1,by rw[hres (by unfold mi;simp only[d0,d1,d2,d3,d4,d5,d6,d7,Bool.not_true,Bool.not_false,Bool.true_and,Bool.false_and])];rfl,hm1⟩
          ·cases hc3
         |false=>
          repeat(first|refine uS ?_ |refine aa rfl ?_ |refine ad (by simp(disch:=omega) only[uB,uT,jD,gT,ie,iV,dI,Nat.zero_add,l0,l1,l10,l11,gx1,aJ aE,aP,d0,d1,d2,d3,d4,d5,d6,d7];exact rfl) ?_)
          refine uJ [1,48] ?_
          refine ae rfl rfl (fun hc3=>?_) (fun hc3=>?_)
          ·cases hc3
          ·refine uG ?_
           exact dD [(1, .ptr (some (s.nx,0)))] ⟨rfl,rfl,by unfold mi;simp only[d0,d1,d2,d3,d4,d5,d6,d7,Bool.not_true,Bool.not_false,Bool.true_and]⟩ (by simp[aI,az])
 ·rintro L _ ⟨rfl,rfl,hhd⟩
  have hmc:lv c=((wi c).all dA&& (c.rows.all dZ&& (gq c&&gE c))):=by unfold lv;rw[hhd];rfl
  rw[hmc]
  refine eL (fun L s'=>L=[(1, .ptr (some (s.nx,0)))]∧Am.Mod No s1 s'∧(wi c).all dA=true) ?_ ?_
  ·refine fO ?_
   refine ad (by simp(disch:=omega) only[uB,uT,lA,me,mA,nC,nX,Nat.zero_add,hb1.ld (i:=2) rfl aN rfl ay,hb1.ld (i:=3) rfl aN rfl ay,hb1.ld (i:=7) rfl aN rfl ay,hb1.ld (i:=8) rfl aN rfl ay,hb1.ld (i:=9) rfl aN rfl ay,Bw];exact rfl) ?_
   refine dR ?_
   refine cJ ?_
   refine eE fun s2 hn2 hm2 hb2=>?_
   have hsl:Sli s2 (.slc (some (s1.nx,0,1)) 5 5 true) 1 ((wi c).map iR):=hb2.sli (rows:=(wi c).map iR) (fun r hr=>by obtain⟨q,_,rfl⟩:=List.mem_map.mp hr;rfl) rfl
   have h5:(wi c).length=5:=rfl
   generalize wi c=ts at*
   let I:Nat→Sl→St→Prop:=fun i L s'=>s2=s'∧i≤5∧(ts.take i).all dA=true∧L=[(1, .ptr (some (s.nx,0))),(59, .slc (some (s1.nx,0,1)) 5 5 true),(60, .int .i64 ((5:Nat):Int)),(61, .int .i64 (i:Int))]
   refine uH ?_
   refine WL.less (M:=[(1, .ptr (some (s.nx,0))),(59, .slc (some (s1.nx,0,1)) 5 5 true),(60, .int .i64 ((5:Nat):Int)),(61, .int .i64 ((0:Nat):Int))]) ?_ rfl
   refine aV I (fun i=>5- i) ?_ 5 0 _ s2 (by simp) ⟨rfl,Nat.zero_le _,rfl,rfl⟩
   rintro i L _ ⟨rfl,hi,hall5,rfl⟩
   refine uG ?_
   refine uJ [1,59,60,61,62] ?_
   refine ae rfl rfl (fun hc2=>?_) (fun hc2=>?_)
   ·simp at hc2
    obtain⟨q,hq⟩:∃q,ts[i]? =some q:=⟨_,List.getElem?_eq_getElem (by omega)⟩
    obtain⟨b5,off5,c5,x5,t5,n5,e5,l5,k2,k3⟩:=hsl.at (i:=i) (r:=iR q) (by simp[hq])
    rw[List.length_map,h5] at e5
    cases e5
    have k4:=eS k3
    have hf:ts.all dA=false∨dA q=true:=by
     cases hm:dA q with
     |true=>exact .inr rfl
     |false=>exact .inl (by rw[List.all_eq_false];exact⟨q,List.mem_of_getElem? hq,by rw[hm];exact Bool.false_ne_true⟩)
    have step:dA q=true→(ts.take (i+1)).all dA=true:=fun h=>by
     rw[List.take_add_one,hq,List.all_append,hall5];simp[h]
    have hm0:=hm1.trans hm2 (fun _ _ h=>h)
    cases d0:decide (q<0) with
    |true=>
     repeat(first|refine uS ?_ |refine aa rfl ?_ |refine ad (by simp(disch:=omega) only[uB,uT,aQ mT ay,ah aN rfl ay k2 k4,Int.toNat_natCast,d0];exact rfl) ?_)
     refine uJ [1,59,60,61,70] ?_
     refine ae rfl rfl (fun hc3=>?_) (fun hc3=>?_)
     ·refine uG ?_
      refine ai rfl ?_
      exact⟨s2,by rw[hf.resolve_right (by unfold dA;rw[d0];simp)];rfl,hm0⟩
     ·cases hc3
    |false=>
     repeat(first|refine uS ?_ |refine aa rfl ?_ |refine ad (by simp(disch:=omega) only[uB,uT,aQ mT ay,ah aN rfl ay k2 k4,Int.toNat_natCast,d0];exact rfl) ?_)
     refine uJ [1,59,60,61,70] ?_
     refine ae rfl rfl (fun hc3=>?_) (fun hc3=>?_)
     ·refine uG ?_
      refine ai rfl ?_
      exact⟨s2,by rw[hf.resolve_right (by unfold dA;rw[d0,hc3];simp)];rfl,hm0⟩
     ·refine uG ?_
      exact aH (i+1) [(1, .ptr (some (s.nx,0))),(59, .slc (some (s1.nx,0,1)) 5 5 true),(60, .int .i64 ((5:Nat):Int)),(61, .int .i64 ((i+1:Nat):Int))] ⟨rfl,by omega,step (by unfold dA;rw[d0,hc3];rfl),rfl⟩ (by show 5- (i+1)<5- i;omega) (by simp[aI,az])
   ·simp at hc2
    have:i=5:=by omega
    subst this
    rw[List.take_of_length_le (by omega)] at hall5
    refine uG ?_
    exact dD [(1, .ptr (some (s.nx,0)))] ⟨rfl,hm2,hall5⟩ (by simp[aI,az])
  ·rintro L s2 ⟨rfl,hm2,htm⟩
   rw[htm]
   refine eL (fun L s'=>L=[(1, .ptr (some (s.nx,0)))]∧Am.Mod No s1 s'∧c.rows.all dZ=true) ?_ ?_
   ·repeat(first|refine uS ?_ |refine aa rfl ?_ |refine ad (by simp(disch:=omega) only[uB,uT,dI,Nat.zero_add,gx hm2];exact rfl) ?_)
    have hokr:=hok.rows
    generalize c.rows=rows at*
    let I:Nat→Sl→St→Prop:=fun i L s'=>Am.Mod No s1 s'∧i≤rows.length∧(rows.take i).all dZ=true∧L=[(1, .ptr (some (s.nx,0))),(73, .slc ax rows.length cx xx),(74, .int .i64 (rows.length:Int)),(75, .int .i64 (i:Int))]
    refine WL.less (M:=[(1, .ptr (some (s.nx,0))),(73, .slc ax rows.length cx xx),(74, .int .i64 (rows.length:Int)),(75, .int .i64 ((0:Nat):Int))]) ?_ rfl
    refine aV I (fun i=>rows.length- i) ?_ rows.length 0 _ s2 (by simp) ⟨hm2,Nat.zero_le _,rfl,rfl⟩
    rintro i L s3 ⟨hm3,hi,hallr,rfl⟩
    refine uG ?_
    refine uJ [1,73,74,75,76] ?_
    refine ae rfl rfl (fun hc2=>?_) (fun hc2=>?_)
    ·simp at hc2
     obtain⟨q,hq⟩:∃q,rows[i]? =some q:=⟨_,List.getElem?_eq_getElem (by omega)⟩
     obtain⟨w,hw,hws,hwz⟩:=pV hall hq
     have hm03:=hm1.trans hm3 (fun _ _ h=>h)
     obtain⟨b5,off5,c5,x5,t5,n5,e5,_,k2,k3⟩:=(hs.mod hm03 (fun _ _ h=>h)).at (i:=i) (r:=[w]) (by rw[List.getElem?_map,hw];rfl)
     rw[List.length_map,hvl] at e5
     cases e5
     have k4:=eS k3
     obtain⟨aw,cw,xw,rfl,_⟩:=hws.ex
     rw[List.length_map] at hws hwz k4
     have hqm:=hokr q (List.mem_of_getElem? hq)
     have hql:=hrl2 q (List.mem_of_getElem? hq)
     have hf:dZ q=false→rows.all dZ=false:=fun hm=>by rw[List.all_eq_false];exact⟨q,List.mem_of_getElem? hq,by rw[hm];exact Bool.false_ne_true⟩
     have step:dZ q=true→(rows.take (i+1)).all dZ=true:=fun h=>by
      rw[List.take_add_one,hq,List.all_append,hallr];simp[h]
     refine oC ?_
     refine cJ ?_
     refine eL (fun L s'=>L=[(1, .ptr (some (s.nx,0))),(73, .slc (some (b5,off5,1)) rows.length cx xx),(74, .int .i64 (rows.length:Int)),(75, .int .i64 (i:Int))]∧Am.Mod No s1 s'∧dZ q=true) ?_ ?_
     ·refine BS ?_
      refine fO ?_;refine ad (by simp(disch:=omega) only[uB,uT,aQ eO ey,ah iA rfl ey k2 k4,Int.toNat_natCast];exact rfl) ?_;refine dR ?_;refine cJ ?_
      refine eL (fun L s'=>L=[(1, .ptr (some (s.nx,0))),(6, .slc aw q.length cw xw),(73, .slc (some (b5,off5,1)) rows.length cx xx),(74, .int .i64 (rows.length:Int)),(75, .int .i64 (i:Int))]∧Am.Mod No s1 s'∧q.all fe=true) ?_ ?_
      ·refine uG ?_
       let J:Nat→Sl→St→Prop:=fun k L s'=>Am.Mod No s1 s'∧k≤q.length∧(q.take k).all fe=true∧L=[(1, .ptr (some (s.nx,0))),(6, .slc aw q.length cw xw),(73, .slc (some (b5,off5,1)) rows.length cx xx),(74, .int .i64 (rows.length:Int)),(75, .int .i64 (i:Int)),(79, .slc aw q.length cw xw),(80, .int .i64 (q.length:Int)),(81, .int .i64 (k:Int))]
       refine WL.less (M:=[(1, .ptr (some (s.nx,0))),(6, .slc aw q.length cw xw),(73, .slc (some (b5,off5,1)) rows.length cx xx),(74, .int .i64 (rows.length:Int)),(75, .int .i64 (i:Int)),(79, .slc aw q.length cw xw),(80, .int .i64 (q.length:Int)),(81, .int .i64 ((0:Nat):Int))]) ?_ rfl
       refine aV J (fun k=>q.length- k) ?_ q.length 0 _ s3 (by simp) ⟨hm3,Nat.zero_le _,rfl,rfl⟩
       rintro k L s4 ⟨hm4,hk,hallk,rfl⟩
       refine uG ?_
       refine uJ [1,6,73,74,75,79,80,81,82] ?_
       refine ae rfl rfl (fun hc3=>?_) (fun hc3=>?_)
       ·simp at hc3
        obtain⟨v,hv⟩:∃v,q[k]? =some v:=⟨_,List.getElem?_eq_getElem (by omega)⟩
        have hm04:=hm1.trans hm4 (fun _ _ h=>h)
        obtain⟨b6,off6,c6,x6,t6,n6,e6,_,j2,j3⟩:=(hws.mod hm04 (fun _ _ h=>h)).at (i:=k) (r:=vl v) (by rw[List.getElem?_map,hv];rfl)
        rw[List.length_map] at e6
        cases e6
        obtain⟨_,v2,_⟩:=hqm v (List.mem_of_getElem? hv)
        obtain⟨cc,hcc,_⟩:=ej (cs:=vl v) (zs:=[.int .i64 0, .int .i64 0, .int .u64 0, .str ⟨0,0⟩]) rfl
        (repeat(first|refine uS ?_ |refine aa rfl ?_));refine ad (by simp(disch:=omega) only[uB,uT,aQ iA dH,cE fL rfl dH j2 j3,Int.toNat_natCast,bQ nN rfl,AV.cells,wj hcc];exact rfl) ?_;(repeat(first|refine uS ?_ |refine aa rfl ?_))
        refine dy hcc fun s5 hn5 hm5 g5=>?_
        repeat(first|refine uS ?_ |refine aa rfl ?_ |refine ad (by simp(disch:=omega) only[uB,uT,g5.all fL rfl dH];exact rfl) ?_)
        refine aj (E7 ho.val v2) ?_ ?_
        ·rintro r s6 ⟨s6',e,hm6⟩
         cases e
         have hm16:=(hm4.trans hm5 (fun _ _ h=>h)).trans hm6 (fun _ _ h=>h)
         refine uL ?_
         refine uH ?_
         refine uJ [1,6,73,74,75,79,80,81,87] ?_
         refine ae rfl rfl (fun hc4=>?_) (fun hc4=>?_)
         ·refine uG ?_
          refine ai rfl ?_
          refine⟨s6,?_,hm1.trans hm16 (fun _ _ h=>h)⟩
          have hq0:q.all fe=false:=by rw[List.all_eq_false];exact⟨v,List.mem_of_getElem? hv,by simpa using hc4⟩
          rw[hf (by unfold dZ;rw[hq0];rfl)];rfl
         ·refine uG ?_
          refine aH (k+1) [(1, .ptr (some (s.nx,0))),(6, .slc (some (b6,off6,4)) q.length cw xw),(73, .slc (some (b5,off5,1)) rows.length cx xx),(74, .int .i64 (rows.length:Int)),(75, .int .i64 (i:Int)),(79, .slc (some (b6,off6,4)) q.length cw xw),(80, .int .i64 (q.length:Int)),(81, .int .i64 ((k+1:Nat):Int))] ⟨hm16,by omega,?_,rfl⟩ (by show q.length- (k+1)<q.length- k;omega) (by simp[aI,az])
          rw[List.take_add_one,hv,List.all_append,hallk]
          simp at hc4
          simp[hc4]
        ·rintro r s' ⟨_,e,_⟩
         cases e
       ·simp at hc3
        have:k=q.length:=by omega
        subst this
        rw[List.take_length] at hallk
        refine uG ?_
        exact dD [(1, .ptr (some (s.nx,0))),(6, .slc aw q.length cw xw),(73, .slc (some (b5,off5,1)) rows.length cx xx),(74, .int .i64 (rows.length:Int)),(75, .int .i64 (i:Int))] ⟨rfl,hm4,hallk⟩ (by simp[aI,az])
      ·rintro L s4 ⟨rfl,hm4,hq2⟩
       have e8:decide ((8:Int)<(q.length:Int))= !decide (q.length≤8):=by rw[Bool.eq_iff_iff];simp;omega
       repeat(first|refine uS ?_ |refine aa rfl ?_ |refine ad (by simp(disch:=omega) only[uB,uT,e8];exact rfl) ?_)
       refine uJ [1,73,74,75,91] ?_
       refine ae rfl rfl (fun hc3=>?_) (fun hc3=>?_)
       ·refine uG ?_
        refine ai rfl ?_
        refine⟨s4,?_,hm1.trans hm4 (fun _ _ h=>h)⟩
        have h8:decide (q.length≤8)=false:=by simpa using hc3
        rw[hf (by unfold dZ;rw[hq2,h8];rfl)];rfl
       ·refine uG ?_
        have h8:decide (q.length≤8)=true:=by simpa using hc3
        exact dD [(1, .ptr (some (s.nx,0))),(73, .slc (some (b5,off5,1)) rows.length cx xx),(74, .int .i64 (rows.length:Int)),(75, .int .i64 (i:Int))] ⟨rfl,hm4,by unfold dZ;rw[hq2,h8];rfl⟩ (by simp[aI,az])
     ·rintro L s4 ⟨rfl,hm4,hq2⟩
      refine uG ?_
      exact aH (i+1) [(1, .ptr (some (s.nx,0))),(73, .slc (some (b5,off5,1)) rows.length cx xx),(74, .int .i64 (rows.length:Int)),(75, .int .i64 ((i+1:Nat):Int))] ⟨hm4,by omega,step hq2,rfl⟩ (by show rows.length- (i+1)<rows.length- i;omega) (by simp[aI,az])
    ·simp at hc2
     have:i=rows.length:=by omega
     subst this
     rw[List.take_length] at hallr
     refine uG ?_
     exact dD [(1, .ptr (some (s.nx,0)))] ⟨rfl,hm3,hallr⟩ (by simp[aI,az])
   ·rintro L s3 ⟨rfl,hm3,hrows⟩
    rw[hrows]
    have hm03:=hm1.trans hm3 (fun _ _ h=>h)
    repeat(first|refine uS ?_ |refine aa rfl ?_ |refine ad (by simp(disch:=omega) only[uB,uT,(hb1.no hm3).all bZ rfl cn];exact rfl) ?_)
    refine aj (CY ho.short ho.reads (hc.no hm03)) ?_ ?_
    ·rintro r s4 ⟨s4',e,hm4⟩
     cases e
     have hm14:=hm3.trans hm4 (fun _ _ h=>h)
     have hm04:=hm1.trans hm14 (fun _ _ h=>h)
     cases d:gq c with
     |false=>
      refine bD (by simp(disch:=omega) only[uB,uT,aP];exact rfl) ?_
      refine uG ?_
      refine ai rfl ?_
      exact⟨s4,rfl,hm04⟩
     |true=>
      refine bD (by simp(disch:=omega) only[uB,uT,(hb1.no hm14).all bZ rfl cn];exact rfl) ?_
      refine aj (B3 ho.short ho.writes (hm04.tidy htd) (hc.no hm04)) ?_ ?_
      ·rintro r s5 ⟨s5',e,hm5⟩
       cases e
       refine uL ?_
       refine uG ?_
       refine ai rfl ?_
       exact⟨s5,rfl,hm04.trans hm5 (fun _ _ h=>h)⟩
      ·rintro r s' ⟨_,e,_⟩
       cases e
    ·rintro r s' ⟨_,e,_⟩
     cases e
end
end Go.Proofs.Ytofohkdkpbigiaa
end
section
namespace Go.Proofs.Ytofohkdkpbigiaa
open Go.Am
set_option maxRecDepth 10000
set_option maxHeartbeats 1000000
set_option linter.unusedSimpArgs false
def mz (t:Str):Nat:=Nat.xor 4294967295 (Bg t)
def zf (t:Str):List Nat:=[mz t/2^24 % 256,mz t/2^16 % 256,mz t/2^8 % 256,mz t % 256]
def jh (t:Str):Str:=t.cat (ic (zf t))
theorem zk (t:Str):okB (zf t):=fun b hb=>by
 simp only[zf,List.mem_cons,List.not_mem_nil,or_false] at hb
 rcases hb with rfl|rfl|rfl|rfl<;>exact Nat.mod_lt _ (by decide)
theorem nL (t:Str):(jh t).len=t.len+4:=by rw[jh,jN,j9];rfl
theorem E0 {t:Str}(h:t.ok):(jh t).sub 0 ((jh t).len- 4)=t:=by
 rw[nL,Nat.add_sub_cancel]
 exact sQ h (zO (zk t))
def mN (s:Str):Option Str:=if 4≤s.len∧(jh (s.sub 0 (s.len- 4))).beq s=true then some (s.sub 0 (s.len- 4)) else none
theorem Dh {t:Str}(h:t.ok):mN (jh t)=some t:=by
 unfold mN
 rw[E0 h,if_pos ⟨by rw[nL];omega,Str.fT _⟩]
theorem Cq {s t:Str}(h:mN s=some t):s=jh t∧t.ok∧t.len+4=s.len:=by
 unfold mN at h
 split at h
 ·rename_i h1
  cases h
  refine⟨(Str.nM h1.2).symm,Ai _ _ _,?_⟩
  rw[uM];omega
 ·cases h
section
variable {O:bj}
theorem L8:X.fns.get 44=some Try.f44:=by kernel_rfl
theorem HO:X.fns.get 28=some Try.f28:=by kernel_rfl
theorem Mk:X.fns.get 30=some Try.f30:=by kernel_rfl
theorem yb {s:St}{a b c d:Nat}:bB X 83 4 [(0,bA a),(1,bA b),(2,bA c),(3,bA d)] s=some (.val (.slc (some (s.nx,0,1)) 4 4 true) {s with h:=s.h.put s.nx (.cells (Tr.of ([a,b,c,d].map bA)) 4),nx:=s.nx+1}):=by
 simp only[bB,cM,qN,yP,bA]
 simp only[eG,lR,dc,AV.cells,dB,fE,aX,iF]
 rfl
theorem Buf.lit {s:St}{l:List Nat}(h:okB l){n:Nat}(hn:n=l.length){x:Bool}:Buf {s with h:=s.h.put s.nx (.cells (Tr.of (l.map bA)) n),nx:=s.nx+1} (.slc (some (s.nx,0,1)) n n x) (ic l):=by
 subst hn
 refine⟨l,h,rfl, .inr ⟨s.nx,x,Tr.of (l.map bA),?_,Nat.lt_succ_self _,⟨0,?_⟩,?_⟩,fun r hr=>by obtain⟨b,_,rfl⟩:=List.mem_map.mp hr;rfl⟩
 ·simp
 ·simp only[List.length_map,Nat.mul_one];exact bm
 ·rw[vc]
  exact jK (by rw[List.drop_zero,List.take_of_length_le (by simp)]) (by simp)
structure AK (O:bj):Prop where
 sum:O 64=some nc
 sum4:O 41=some nc
 put:O 44=none
 rput:O 28=none
 get:O 30=none
theorem Hl {t:Str}{s:St}(hl:t.len≤1000000000):nc [.str t] s=some (.ret (.int .u32 (mz t:Int)) s):=by
 simp only[nc,Nat.ble_eq.mpr hl];rfl
theorem xY (ho:AK O){s:St}{t:Str}(hl:t.len≤1000000000):
  Ca X O (.fn 44) [.str t] s fun z=>∃s',z= .ret (.str (jh t)) s'∧Am.Mod No s s':=by
 refine bb ho.put L8 rfl ?_
 unfold aD aD
 refine uG ?_
 refine aj (ku (Q:=fun z=>z= .ret (.int .u32 (mz t:Int)) s) ho.sum (Hl hl) rfl) ?_ ?_
 ·rintro v s' e
  cases e
  refine uL ?_
  have hbuf:=Buf.lit (s:=s) (zk t) (n:=4) rfl (x:=true)
  have hconv:=hbuf.str (X:=X) cM aE jB
  have h24:∀ {c:Bool},aW X .shr 110 c (.int .u32 (mz t:Int)) (.int .u64 24)=some (.int .u32 ((mz t/2^24:Nat):Int)):=fun{c}=>lM (m:=24) (by decide)
  have h16:∀ {c:Bool},aW X .shr 110 c (.int .u32 (mz t:Int)) (.int .u64 16)=some (.int .u32 ((mz t/2^16:Nat):Int)):=fun{c}=>lM (m:=16) (by decide)
  have h8:∀ {c:Bool},aW X .shr 110 c (.int .u32 (mz t:Int)) (.int .u64 8)=some (.int .u32 ((mz t/2^8:Nat):Int)):=fun{c}=>lM (m:=8) (by decide)
  have hadd:=fun{c:Bool}=>Gt (X:=X) (t:=9) (c:=c) (a:=t) (b:=ic (zf t)) (by rw[j9];simp[zf];omega)
  simp only[zf,List.map_cons,List.map_nil] at hconv hadd
  repeat(first|refine uS ?_ |refine aa rfl ?_ |refine ad (by simp(disch:=omega) only[uB,uT,h24,h16,h8,D7 rn jB,yb,hconv,hadd];exact rfl) ?_)
  refine ai rfl ?_
  exact⟨_,rfl,(Mod.refl _ s).new _⟩
 ·rintro v s' e
  cases e
theorem Cx (ho:AK O){s:St}{t:Str}(hl:t.len≤1000000000):
  Ca X O (.fn 28) [.str t] s fun z=>∃s',z= .ret (.str (jh t)) s'∧Am.Mod No s s':=by
 refine bb ho.rput HO rfl ?_
 unfold aD aD
 refine uG ?_
 refine aj (ku (Q:=fun z=>z= .ret (.int .u32 (mz t:Int)) s) ho.sum4 (Hl hl) rfl) ?_ ?_
 ·rintro v s' e
  cases e
  refine uL ?_
  have hbuf:=Buf.lit (s:=s) (zk t) (n:=4) rfl (x:=true)
  have hconv:=hbuf.str (X:=X) cM aE jB
  have h24:∀ {c:Bool},aW X .shr 110 c (.int .u32 (mz t:Int)) (.int .u64 24)=some (.int .u32 ((mz t/2^24:Nat):Int)):=fun{c}=>lM (m:=24) (by decide)
  have h16:∀ {c:Bool},aW X .shr 110 c (.int .u32 (mz t:Int)) (.int .u64 16)=some (.int .u32 ((mz t/2^16:Nat):Int)):=fun{c}=>lM (m:=16) (by decide)
  have h8:∀ {c:Bool},aW X .shr 110 c (.int .u32 (mz t:Int)) (.int .u64 8)=some (.int .u32 ((mz t/2^8:Nat):Int)):=fun{c}=>lM (m:=8) (by decide)
  have hadd:=fun{c:Bool}=>Gt (X:=X) (t:=9) (c:=c) (a:=t) (b:=ic (zf t)) (by rw[j9];simp[zf];omega)
  simp only[zf,List.map_cons,List.map_nil] at hconv hadd
  repeat(first|refine uS ?_ |refine aa rfl ?_ |refine ad (by simp(disch:=omega) only[uB,uT,h24,h16,h8,D7 rn jB,yb,hconv,hadd];exact rfl) ?_)
  refine ai rfl ?_
  exact⟨_,rfl,(Mod.refl _ s).new _⟩
 ·rintro v s' e
  cases e
theorem FW (ho:AK O){s:St}{t:Str}(hl:t.len≤1000000000):
  Ca X O (.fn 30) [.str t] s fun z=>∃s',z= .ret (.tup (match mN t with|some b=>[.str b, .int .i64 0]|none=>[.str bu, .int .i64 3])) s'∧Am.Mod No s s':=by
 refine bb ho.get Mk rfl ?_
 unfold aD aD
 have hsub:wr .i64 ((t.len:Int)- 4)=(t.len:Int)- 4:=Dw (by omega) (by omega)
 cases d:decide ((t.len:Int)- 4<0) with
 |true=>
  repeat(first|refine uS ?_ |refine aa rfl ?_ |refine ad (by simp(disch:=omega) only[uB,uT,aJ aE,hsub,d,aP];exact rfl) ?_)
  refine uJ [0,4,17] ?_
  refine ae rfl rfl (fun hc=>?_) (fun hc=>?_)
  ·repeat(first|refine uS ?_ |refine aa rfl ?_ |refine ad (by simp(disch:=omega) only[uB,uT,bk];exact rfl) ?_)
   refine ai rfl ?_
   refine⟨s,?_,Mod.refl _ _⟩
   have:mN t=none:=by
    unfold mN
    rw[if_neg]
    intro h;simp at d;omega
   rw[this];rfl
  ·cases hc
 |false=>
  have hle:4≤t.len:=by simp at d;omega
  have hn:((t.len:Int)- 4).toNat=t.len- 4:=by omega
  repeat(first|refine uS ?_ |refine aa rfl ?_ |refine ad (by simp(disch:=omega) only[uB,uT,aJ aE,hsub,d,Ia aE,hn];exact rfl) ?_)
  refine aj (xY ho (t:=t.sub 0 (t.len- 4)) (by rw[uM];omega)) ?_ ?_
  ·rintro r s1 ⟨s1',e,hm1⟩
   cases e
   refine uL ?_
   refine uH ?_
   refine uJ [0,4,17] ?_
   refine ae rfl rfl (fun hc=>?_) (fun hc=>?_)
   ·repeat(first|refine uS ?_ |refine aa rfl ?_ |refine ad (by simp(disch:=omega) only[uB,uT,bk];exact rfl) ?_)
    refine ai rfl ?_
    refine⟨s1,?_,hm1⟩
    have:mN t=none:=by
     unfold mN
     rw[if_neg]
     intro h;rw[h.2] at hc;cases hc
    rw[this];rfl
   ·repeat(first|refine uS ?_ |refine aa rfl ?_ |refine ad (by simp(disch:=omega) only[uB,uT,Ia aE,hn];exact rfl) ?_)
    refine ai rfl ?_
    refine⟨s1,?_,hm1⟩
    have:mN t=some (t.sub 0 (t.len- 4)):=by
     unfold mN
     rw[if_pos ⟨hle,by simpa using hc⟩]
    rw[this];rfl
  ·rintro r s' ⟨_,e,_⟩
   cases e
end
end Go.Proofs.Ytofohkdkpbigiaa
end
section
namespace Go.Proofs.Ytofohkdkpbigiaa
open Go.Am
set_option maxRecDepth 10000
set_option maxHeartbeats 1000000
set_option linter.unusedSimpArgs false
def qm (c:Cmd):Str:=bu.app (cI c)
def fw (c:Cmd):Str×Int:=if lv c=true then(if(jh (qm c)).len≤20000 then(jh (qm c),0) else(bu,2)) else(bu,1)
section
variable {O:bj}
theorem LM:X.fns.get 33=some Try.f33:=by kernel_rfl
structure Mr (O:bj):Prop where
 wri:P8 O
 may:Mz O
 sl:AK O
 put:O 33=none
theorem HU:bz X 120 []=some (.pure (.agg [.slc none 0 0 true])):=by
 simp only[bz,zC,AI,cS,cQ,cL,dc,AV.cells,dB,fB]
theorem Ij {s:St}:dY (.agg [.slc none 0 0 true]) s=some (.val (.ptr (some (s.nx,0))) {s with h:=s.h.put s.nx (.cells (Tr.of [.slc none 0 0 true]) 1),nx:=s.nx+1}):=cX rfl
structure sY (s:St)(c:Cmd)(z:CL):Prop where
 h:jI s c z
 r:∃Z:Nat→Prop,oP s Z z.x c.rows∧∀d,Z d→d<s.nx
 b:∀d,z.has d→d<s.nx
 ok:sc c
theorem sY.no {s t:St}{c:Cmd}{z:CL}(h:sY s c z)(hm:Am.Mod No s t):sY t c z:=
 let⟨Z,h1,h2⟩:=h.r;⟨h.h.no hm,⟨Z,h1.mod hm (fun _ _ h=>h),fun d hd=>Nat.lt_of_lt_of_le (h2 d hd) hm.nx⟩,fun d hd=>Nat.lt_of_lt_of_le (h.b d hd) hm.nx,h.ok⟩
theorem BN {c:Cmd}:c.rows.length≤aM (cI c)∧∀r∈c.rows,r.length≤aM (cI c):=by
 have h0:aM (dQ c.rows)≤aM (cI c):=by simp only[cI,jq,aA];omega
 have h1:∀l:List (List Vl),l.length≤aM (l.map cW).flatten:=by
  intro l
  induction l with
  |nil=>exact Nat.le_refl _
  |cons r l ih=>rw[List.map_cons,List.flatten_cons,aA,cW,bL];show _+1≤8+_+_;omega
 have h2:∀l:List Vl,l.length≤aM (l.map ib).flatten:=by
  intro l
  induction l with
  |nil=>exact Nat.le_refl _
  |cons r l ih=>rw[List.map_cons,List.flatten_cons,aA,nT];simp only[List.length_cons];omega
 have h3:∀l:List (List Vl),∀r∈l,aM (cW r)≤aM (l.map cW).flatten:=by
  intro l
  induction l with
  |nil=>intro r hr;cases hr
  |cons q l ih=>
   intro r hr
   rw[List.map_cons,List.flatten_cons,aA]
   rcases List.mem_cons.mp hr with rfl|hr
   ·omega
   ·have:=ih r hr;omega
 have h4:aM (dQ c.rows)=8+aM (c.rows.map cW).flatten:=by rw[dQ,bL];rfl
 refine⟨by have:=h1 c.rows;omega,fun r hr=>?_⟩
 have a1:=h3 c.rows r hr
 have a2:=h2 r
 have a3:aM (cW r)=8+aM (r.map ib).flatten:=by rw[cW,bL];rfl
 omega
theorem Fz (ho:Mr O){s:St}(htd:Tidy s){c:Cmd}{z:CL}(hc:sY s c z)(hl:aM (cI c)≤1000000):
  Ca X O (.fn 33) [.agg (bY c z)] s fun r=>∃s',r= .ret (.tup [.str (fw c).1, .int .i64 (fw c).2]) s'∧Am.Mod No s s':=by
 obtain⟨hr1,hr2⟩:=BN (c:=c)
 refine bb ho.put LM rfl ?_
 unfold aD aD
 (repeat(first|refine uS ?_ |refine aa rfl ?_));refine ad (by simp(disch:=omega) only[uB,uT,cX (cs:=bY c z) hc.h.qI];exact rfl) ?_;(repeat(first|refine uS ?_ |refine aa rfl ?_))
 refine eE fun s1 hn1 hm1 hb1=>?_
 have hc1:=hc.no hm1
 repeat(first|refine uS ?_ |refine aa rfl ?_ |refine ad (by simp(disch:=omega) only[uB,uT,hb1.all bZ rfl cn];exact rfl) ?_)
 obtain⟨Z,hZ,hZlt⟩:=hc.r
 refine aj (Gh ho.may (hm1.tidy htd) hc1.h (hZ.mod hm1 (fun _ _ h=>h)) hc.ok (by omega) (fun r hr=>by have:=hr2 r hr;omega)) ?_ ?_
 ·rintro r s2 ⟨s2',e,hm2⟩
  cases e
  have hm02:=hm1.trans hm2 (fun _ _ h=>h)
  refine uL ?_
  refine uH ?_
  refine uJ [1,8] ?_
  refine ae rfl rfl (fun hcm=>?_) (fun hcm=>?_)
  ·repeat(first|refine uS ?_ |refine aa rfl ?_ |refine ad (by simp(disch:=omega) only[uB,uT,bk];exact rfl) ?_)
   refine ai rfl ?_
   have:lv c=false:=by simpa using hcm
   exact⟨s2,by unfold fw;rw[this];rfl,hm02⟩
  ·have hmay:lv c=true:=by simpa using hcm
   (repeat(first|refine uS ?_ |refine aa rfl ?_));refine ad (by simp(disch:=omega) only[uB,uT,HU,Ij];exact rfl) ?_;(repeat(first|refine uS ?_ |refine aa rfl ?_))
   refine eE fun s3 hn3 hm3 hb3=>?_
   have hm03:=hm02.trans hm3 (fun _ _ h=>h)
   have htd3:=hm03.tidy htd
   have hc3:=hc.no hm03
   have hw:Wri s3 s2.nx (fun d=>d=s2.nx) bu:=⟨⟨_,hb3,Buf.nil,fun d hd=>by cases hd⟩,rfl,fun d hd=>by subst hd;omega⟩
   have n02:=hm02.nx
   repeat(first|refine uS ?_ |refine aa rfl ?_ |refine ad (by simp(disch:=omega) only[uB,uT,((hb1.no hm2).no hm3).all bZ rfl cn];exact rfl) ?_)
   have hlC:aM (cI c)+0≤1000000:=hl
   refine aj (zI ho.wri hw htd3 hc3.h (hZ.mod hm03 (fun _ _ h=>h)) (fun d hd e=>by subst e;exact hd.elim (fun h=>by have:=hc.b _ h;omega) (fun h=>by have:=hZlt _ h;omega)) hc.ok (by show 0+_≤_;omega)) ?_ ?_
   ·rintro r s4 ⟨s4',H4,e,h4,hm4,_⟩
    cases e
    have hm04:Am.Mod No s s4:=hm03.trans hm4 (fun d hd e=>by subst e;omega)
    obtain⟨v4,k4,b4,_⟩:=h4.ex
    obtain⟨a4,c4,x4,e4⟩:=b4.slc
    have hconv:=b4.str (X:=X) cM aE jB
    have henc:(bu.app (cI c)).len=aM (cI c):=by rw[bf];show 0+_=_;omega
    rw[e4] at k4 hconv
    refine uL ?_
    repeat(first|refine uS ?_ |refine aa rfl ?_ |refine ad (by simp(disch:=omega) only[uB,uT,bN,D6,Nat.zero_add,k4.ld (i:=0) rfl cM rfl cQ,hconv];exact rfl) ?_)
    refine aj (xY ho.sl (t:=bu.app (cI c)) (by omega)) ?_ ?_
    ·rintro r s5 ⟨s5',e,hm5⟩
     cases e
     have hm05:=hm04.trans hm5 (fun _ _ h=>h)
     refine uL ?_
     repeat(first|refine uS ?_ |refine aa rfl ?_ |refine ad (by simp(disch:=omega) only[uB,uT,aJ aE];exact rfl) ?_)
     refine uJ [5,22] ?_
     refine ae rfl rfl (fun hc2=>?_) (fun hc2=>?_)
     ·repeat(first|refine uS ?_ |refine aa rfl ?_ |refine ad (by simp(disch:=omega) only[uB,uT,bk];exact rfl) ?_)
      refine ai rfl ?_
      have:¬(jh (qm c)).len≤20000:=by
       simp at hc2
       show ¬(jh (bu.app (cI c))).len≤20000
       omega
      exact⟨s5,by unfold fw;rw[if_pos hmay,if_neg this];rfl,hm05⟩
     ·refine uG ?_
      refine ai rfl ?_
      have:(jh (qm c)).len≤20000:=by
       simp at hc2
       show(jh (bu.app (cI c))).len≤20000
       omega
      exact⟨s5,by unfold fw;rw[if_pos hmay,if_pos this];rfl,hm05⟩
    ·rintro r s' ⟨_,e,_⟩
     cases e
   ·rintro r s' ⟨_,_,e,_⟩
    cases e
 ·rintro r s' ⟨_,e,_⟩
  cases e
end
end Go.Proofs.Ytofohkdkpbigiaa
end
section
namespace Go.Proofs.Ytofohkdkpbigiaa
open Go.Am
set_option maxRecDepth 10000
set_option maxHeartbeats 1000000
set_option linter.unusedSimpArgs false
def en (n:Nat)(T:Str):Option (Str×Str):=if n≤T.len then some (T.sub 0 n,T.sub n T.len) else none
def qq (n:Int)(T:Str):Option (Str×Str):=if n<0 then none else en n.toNat T
def rdW (T:Str):Option (Nat×Str):=match en 8 T with
 |some (a,T')=>some (a.val,T')
 |none=>none
def rdN (T:Str):Option (Int×Str):=match rdW T with
 |some (a,T')=>some (i64 a,T')
 |none=>none
def rdC (T:Str):Option (Nat×Str):=match rdN T with
 |some (n,T')=>if n<0∨(T'.len:Int)<n then none else some (n.toNat,T')
 |none=>none
def rdT (T:Str):Option (Str×Str):=match rdC T with
 |some (n,T')=>en n T'
 |none=>none
def jz:AV:= .iface 132 (.agg [])
def RdP (s:St)(rb:Nat)(p:Option (AV×Str)):CR→Prop:=fun r=>match p with
 |some (v,T)=>∃s',r= .ret v s'∧Bx s' rb [.str T]∧Am.Mod (fun c=>c=rb) s s'∧T.ok
 |none=>∃s',r= .pan jz s'∧Am.Mod (fun c=>c=rb) s s'
theorem o8 {n:Nat}{T a T':Str}(h:en n T=some (a,T')):a.ok∧T'.ok∧a.len=n∧a.len+T'.len=T.len:=by
 unfold en at h
 split at h
 ·rename_i hn
  cases h
  exact⟨Ai _ _ _,Ai _ _ _,by simp[uM],by simp only[uM];omega⟩
 ·cases h
section
variable {O:bj}
theorem Ks:X.fns.get 66=some Try.f66:=by kernel_rfl
theorem IY:X.fns.get 65=some Try.f65:=by kernel_rfl
theorem L0:X.fns.get 45=some Try.f45:=by kernel_rfl
theorem Fb:X.fns.get 46=some Try.f46:=by kernel_rfl
theorem Jx:X.fns.get 47=some Try.f47:=by kernel_rfl
theorem BK {b off:Nat}:af X 100 (.ptr (some (b,off))) 0=some (.pure (.ptr (some (b,off)))):=by
 simp only[af,zx,bh,List.getElem?_cons_zero,List.getElem?_cons_succ,zF,Nat.add_zero]
theorem IE {b off:Nat}:af X 98 (.ptr (some (b,off))) 0=some (.pure (.ptr (some (b,off)))):=by
 simp only[af,Cf,bh,List.getElem?_cons_zero,List.getElem?_cons_succ,aF,Nat.add_zero]
structure RdO (O:bj):Prop where
 take:O 66=none
 word:O 65=none
 num:O 45=none
 count:O 46=none
 text:O 47=none
theorem oD:bz X 132 []=some (.pure (.agg [])):=by
 simp only[bz,zW,AZ,cS,cL,dc,fB,AV.cells]
theorem uP:iK X 132 (.agg [])=some (.old jz):=by
 simp only[iK,zW];rfl
theorem sE:vh jz=some (.pan jz):=rfl
theorem yz (ho:RdO O){s:St}{rb:Nat}{T:Str}(h:Bx s rb [.str T])(hT:T.len≤1000000000){n:Int}:
  Ca X O (.fn 66) [.ptr (some (rb,0)), .int .i64 n] s (RdP s rb ((qq n T).map fun p=>(.str p.1,p.2))):=by
 have hl:=h.ld (X:=X) (i:=0) rfl aE rfl aF
 refine bb ho.take Ks rfl ?_
 unfold aD aD aD
 cases d1:decide (n<0) with
 |true=>
  have h1:n<0:=by simpa using d1
  repeat(first|refine uS ?_ |refine aa rfl ?_ |refine ad (by simp(disch:=omega) only[uB,uT,d1,aP];exact rfl) ?_)
  refine uJ [0,1,16] ?_
  refine ae rfl rfl (fun hc=>?_) (fun hc=>?_)
  ·repeat(first|refine uS ?_ |refine aa rfl ?_ |refine ad (by simp(disch:=omega) only[uB,uT,oD,uP,sE];exact rfl) ?_)
   refine bX ?_
   unfold qq
   rw[if_pos h1]
   exact⟨s,rfl,Mod.refl _ _⟩
  ·cases hc
 |false=>
  have h1:¬n<0:=by simpa using d1
  repeat(first|refine uS ?_ |refine aa rfl ?_ |refine ad (by simp(disch:=omega) only[uB,uT,d1,bN,IE,Nat.zero_add,hl,aJ aE];exact rfl) ?_)
  refine uJ [0,1,16] ?_
  refine ae rfl rfl (fun hc=>?_) (fun hc=>?_)
  ·repeat(first|refine uS ?_ |refine aa rfl ?_ |refine ad (by simp(disch:=omega) only[uB,uT,oD,uP,sE];exact rfl) ?_)
   refine bX ?_
   unfold qq en
   rw[if_neg h1,if_neg (by simp at hc;omega)]
   exact⟨s,rfl,Mod.refl _ _⟩
  ·have h2:n≤(T.len:Int):=by simpa using hc
   obtain⟨s2,e2,k2,hm2,n2⟩:=h.stm (X:=X) (t:=9) (i:=0) (w:= .str (T.sub n.toNat T.len)) rfl aF rfl rfl
   repeat(first|refine uS ?_ |refine aa rfl ?_ |refine ad (by simp(disch:=omega) only[uB,uT,bN,IE,Nat.zero_add,hl,Ia aE,KJ aE,e2];exact rfl) ?_)
   refine ai rfl ?_
   unfold qq en
   rw[if_neg h1,if_pos (by omega)]
   exact⟨s2,rfl,k2,hm2,Ai _ _ _⟩
theorem p8 {s:St}{rb:Nat}{p:Option (AV×Str)}{v:AV}{s':St}(h:RdP s rb p (.ret v s')):∃T,p=some (v,T)∧Bx s' rb [.str T]∧Am.Mod (fun c=>c=rb) s s'∧T.ok:=by
 match p,h with
 |some (u,T),⟨s2,e,h1,h2,h3⟩=>cases e;exact⟨T,rfl,h1,h2,h3⟩
 |none,⟨s2,e,_⟩=>cases e
theorem qc {s:St}{rb:Nat}{p:Option (AV×Str)}{v:AV}{s':St}(h:RdP s rb p (.pan v s')):p=none∧v=jz∧Am.Mod (fun c=>c=rb) s s':=by
 match p,h with
 |some (u,T),⟨s2,e,_⟩=>cases e
 |none,⟨s2,e,h1⟩=>cases e;exact⟨rfl,rfl,h1⟩
theorem qX (ho:RdO O){s:St}{rb:Nat}{T:Str}(h:Bx s rb [.str T])(hT:T.len≤1000000000):
  Ca X O (.fn 65) [.ptr (some (rb,0))] s (RdP s rb ((rdW T).map fun p=>(.int .u64 (p.1:Int),p.2))):=by
 refine bb ho.word IY rfl ?_
 unfold aD aD
 repeat(first|refine uS ?_ |refine aa rfl ?_ |refine ad (by simp(disch:=omega) only[uB,uT,bN,BK,Nat.zero_add];exact rfl) ?_)
 refine aj (yz ho h hT (n:=8)) ?_ ?_
 ·intro v s1 hr
  obtain⟨T',e,h1,hm1,hok⟩:=p8 hr
  have hz:qq 8 T=en 8 T:=rfl
  rw[hz] at e
  cases ht:en 8 T with
  |none=>rw[ht] at e;cases e
  |some p=>
   obtain⟨w,T''⟩:=p
   rw[ht] at e
   simp only[Option.map_some,Option.some.injEq,Prod.mk.injEq] at e
   obtain⟨rfl,rfl⟩:=e
   obtain⟨hw,_,hwl,_⟩:=o8 ht
   have hrd:rdW T=some (w.val,T''):=by unfold rdW;rw[ht]
   rw[hrd]
   have hbl:(bl w).length=8:=by rw[zX,hwl]
   refine bD (by simp(disch:=omega) only[uB,uT,Gv aE cM jB (show w.len≤1000000 by omega)];exact rfl) ?_
   refine uH ?_
   refine eE fun s2 hn2 hm2 hb2=>?_
   rw[hwl]
   have hvl:∀i,i≤8→(ic ((bl w).take i)).val<256^i:=fun i hi=>by
    have:=zO (l:=(bl w).take i) (fun b hb=>GF w b (List.mem_of_mem_take hb))
    unfold Str.ok at this
    rw[j9,List.length_take,hbl,Nat.min_eq_left hi] at this
    exact this
   have hm02:Am.Mod (fun c=>c=rb) s s2:=hm1.trans hm2 (fun _ _ e=>e.elim)
   let I:Nat→Sl→St→Prop:=fun i L s'=>s2=s'∧i≤8∧L=[(3, .int .u64 ((ic ((bl w).take i)).val:Int)),(10, .slc (some (s1.nx,0,1)) 8 8 false),(11, .int .i64 ((8:Nat):Int)),(12, .int .i64 (i:Int))]
   refine WL.less (M:=[(3, .int .u64 ((0:Nat):Int)),(10, .slc (some (s1.nx,0,1)) 8 8 false),(11, .int .i64 ((8:Nat):Int)),(12, .int .i64 ((0:Nat):Int))]) ?_ rfl
   refine aV I (fun i=>8- i) ?_ 8 0 _ s2 (by simp) ⟨rfl,Nat.zero_le _,rfl⟩
   rintro i L _ ⟨rfl,hi,rfl⟩
   refine uG ?_
   refine uJ [3,10,11,12,13] ?_
   refine ae rfl rfl (fun hc2=>?_) (fun hc2=>?_)
   ·simp at hc2
    obtain⟨b,hb⟩:∃b,(bl w)[i]? =some b:=⟨_,List.getElem?_eq_getElem (by omega)⟩
    have hblt:=GF w b (List.mem_of_getElem? hb)
    have hvi:=hvl i hi
    have hpw:(256:Nat)^i≤256^7:=Nat.pow_le_pow_right (by decide) (by omega)
    have h7:(256:Nat)^7=72057594037927936:=by decide
    have hlb:aO X 5 (.ptr (some (s1.nx,i))) s2=some (.old (bA b)):=hb2.ld (i:=i) (by rw[List.getElem?_map,hb];rfl) jB rfl qN
    have hsn:(ic ((bl w).take (i+1))).val=(ic ((bl w).take i)).val*256+b:=by
     rw[List.take_add_one,hb]
     show(ic ((bl w).take i++[b])).val=_
     rw[FK];rfl
    generalize hv:(ic ((bl w).take i)).val=v at*
    repeat(first|refine uS ?_ |refine aa rfl ?_ |refine ad (by simp(disch:=omega) only[uB,uT,aQ cM qN,Int.toNat_natCast,Nat.mul_one,Nat.zero_add,hlb,Nr (show v<72057594037927936 by omega),Nv jB fa hblt,Pg (show v<72057594037927936 by omega) hblt];exact rfl) ?_)
    exact aH (i+1) [(3, .int .u64 ((v*256+b:Nat):Int)),(10, .slc (some (s1.nx,0,1)) 8 8 false),(11, .int .i64 ((8:Nat):Int)),(12, .int .i64 ((i+1:Nat):Int))] ⟨rfl,by omega,by rw[hsn]⟩ (by show 8- (i+1)<8- i;omega) (by simp[aI,az])
   ·simp at hc2
    have:i=8:=by omega
    subst this
    refine uG ?_
    refine ai rfl ?_
    rw[List.take_of_length_le (by omega),yR hw]
    exact⟨s2,rfl,h1.no hm2,hm02,hok⟩
 ·intro v s1 hr
  obtain⟨e,rfl,hm⟩:=qc hr
  have hz:qq 8 T=en 8 T:=rfl
  rw[hz] at e
  have hrd:rdW T=none:=by
   unfold rdW
   cases ht:en 8 T with
   |none=>rfl
   |some p=>rw[ht] at e;cases e
  rw[hrd]
  refine uH ?_
  refine bX ?_
  exact⟨s1,rfl,hm⟩
theorem eU (ho:RdO O){s:St}{rb:Nat}{T:Str}(h:Bx s rb [.str T])(hT:T.len≤1000000000):
  Ca X O (.fn 45) [.ptr (some (rb,0))] s (RdP s rb ((rdN T).map fun p=>(.int .i64 p.1,p.2))):=by
 refine bb ho.num L0 rfl ?_
 unfold aD aD
 refine uG ?_
 refine aj (qX ho h hT) ?_ ?_
 ·intro v s1 hr
  obtain⟨T',e,h1,hm1,hok⟩:=p8 hr
  cases hw:rdW T with
  |none=>rw[hw] at e;cases e
  |some p=>
   obtain⟨w,T''⟩:=p
   rw[hw] at e
   simp only[Option.map_some,Option.some.injEq,Prod.mk.injEq] at e
   obtain⟨rfl,rfl⟩:=e
   have hrd:rdN T=some (i64 w,T''):=by unfold rdN;rw[hw]
   rw[hrd]
   refine bD (by simp(disch:=omega) only[uB,uT,ze fa aN];exact rfl) ?_
   refine uG ?_
   refine ai rfl ?_
   exact⟨s1,rfl,h1,hm1,hok⟩
 ·intro v s1 hr
  obtain⟨e,rfl,hm⟩:=qc hr
  have hrd:rdN T=none:=by
   unfold rdN
   cases hw:rdW T with
   |none=>rfl
   |some p=>rw[hw] at e;cases e
  rw[hrd]
  refine uH ?_
  refine bX ?_
  exact⟨s1,rfl,hm⟩
theorem cH {T T':Str}{n:Int}(h:rdN T=some (n,T')): -9223372036854775808≤n∧n≤9223372036854775807∧T'.len+8=T.len:=by
 unfold rdN rdW at h
 cases ht:en 8 T with
 |none=>rw[ht] at h;cases h
 |some p=>
  obtain⟨a,b⟩:=p
  rw[ht] at h
  simp only[Option.some.injEq,Prod.mk.injEq] at h
  obtain⟨rfl,rfl⟩:=h
  obtain⟨_,_,h1,h2⟩:=o8 ht
  have:=yh a.val
  exact⟨this.1,this.2,by omega⟩
theorem iJ (ho:RdO O){s:St}{rb:Nat}{T:Str}(h:Bx s rb [.str T])(hT:T.len≤1000000000):
  Ca X O (.fn 46) [.ptr (some (rb,0))] s (RdP s rb ((rdC T).map fun p=>(.int .i64 (p.1:Int),p.2))):=by
 refine bb ho.count Fb rfl ?_
 unfold aD aD
 refine uG ?_
 refine aj (eU ho h hT) ?_ ?_
 ·intro v s1 hr
  obtain⟨T',e,h1,hm1,hok⟩:=p8 hr
  cases hw:rdN T with
  |none=>rw[hw] at e;cases e
  |some p=>
   obtain⟨n,T''⟩:=p
   rw[hw] at e
   simp only[Option.map_some,Option.some.injEq,Prod.mk.injEq] at e
   obtain⟨rfl,rfl⟩:=e
   have hl1:=h1.ld (X:=X) (i:=0) rfl aE rfl aF
   refine uL ?_
   cases d1:decide (n<0) with
   |true=>
    have hn:n<0:=by simpa using d1
    have hrd:rdC T=none:=by unfold rdC;rw[hw];simp only;rw[if_pos (.inl hn)]
    rw[hrd]
    repeat(first|refine uS ?_ |refine aa rfl ?_ |refine ad (by simp(disch:=omega) only[uB,uT,d1,aP];exact rfl) ?_)
    refine uJ [0,3,17] ?_
    refine ae rfl rfl (fun hc=>?_) (fun hc=>?_)
    ·repeat(first|refine uS ?_ |refine aa rfl ?_ |refine ad (by simp(disch:=omega) only[uB,uT,oD,uP,sE];exact rfl) ?_)
     refine bX ?_
     exact⟨s1,rfl,hm1⟩
    ·cases hc
   |false=>
    have hn:¬n<0:=by simpa using d1
    repeat(first|refine uS ?_ |refine aa rfl ?_ |refine ad (by simp(disch:=omega) only[uB,uT,d1,bN,BK,IE,Nat.zero_add,hl1,aJ aE];exact rfl) ?_)
    refine uJ [0,3,17] ?_
    refine ae rfl rfl (fun hc=>?_) (fun hc=>?_)
    ·have hrd:rdC T=none:=by unfold rdC;rw[hw];simp only;rw[if_pos (.inr (by simpa using hc))]
     rw[hrd]
     repeat(first|refine uS ?_ |refine aa rfl ?_ |refine ad (by simp(disch:=omega) only[uB,uT,oD,uP,sE];exact rfl) ?_)
     refine bX ?_
     exact⟨s1,rfl,hm1⟩
    ·have hle:¬(T''.len:Int)<n:=by simp at hc;omega
     have hrd:rdC T=some (n.toNat,T''):=by unfold rdC;rw[hw];simp only;rw[if_neg (by rintro(h|h);exact hn h;exact hle h)]
     rw[hrd]
     refine uG ?_
     refine ai rfl ?_
     have e:((n.toNat:Nat):Int)=n:=by omega
     exact⟨s1,by simp only[e];rfl,h1,hm1,hok⟩
 ·intro v s1 hr
  obtain⟨e,rfl,hm⟩:=qc hr
  have hrd:rdC T=none:=by
   unfold rdC
   cases hw:rdN T with
   |none=>rfl
   |some p=>rw[hw] at e;cases e
  rw[hrd]
  refine uH ?_
  refine bX ?_
  exact⟨s1,rfl,hm⟩
theorem nd {T T':Str}{n:Nat}(h:rdC T=some (n,T')):n≤T'.len∧T'.len+8=T.len:=by
 unfold rdC at h
 cases hw:rdN T with
 |none=>rw[hw] at h;cases h
 |some p=>
  obtain⟨a,b⟩:=p
  rw[hw] at h
  simp only at h
  split at h
  ·cases h
  ·rename_i hn
   simp only[Option.some.injEq,Prod.mk.injEq] at h
   obtain⟨rfl,rfl⟩:=h
   exact⟨by omega,(cH hw).2.2⟩
theorem iw (ho:RdO O){s:St}{rb:Nat}{T:Str}(h:Bx s rb [.str T])(hT:T.len≤1000000000):
  Ca X O (.fn 47) [.ptr (some (rb,0))] s (RdP s rb ((rdT T).map fun p=>(.str p.1,p.2))):=by
 refine bb ho.text Jx rfl ?_
 unfold aD aD
 refine uG ?_
 refine aU [(0,none),(1,none),(2,none),(3,none),(4,some [false,true,true,true]),(5,some [false,true,true]),(6,some [false,false])] (by kernel_rfl) (by kernel_rfl) (by simp(disch:=omega) only[uB,uT,Nat.reduceEqDiff,↓reduceIte,uD,mask,aC,aB,bN,BK,Nat.zero_add];exact rfl) ?_
 refine cg (iJ ho h hT) ?_ ?_
 ·intro v s1 hr
  obtain⟨T',e,h1,hm1,hok⟩:=p8 hr
  cases hw:rdC T with
  |none=>rw[hw] at e;cases e
  |some p=>
   obtain⟨n,T''⟩:=p
   rw[hw] at e
   simp only[Option.map_some,Option.some.injEq,Prod.mk.injEq] at e
   obtain⟨rfl,rfl⟩:=e
   have hlt:=nd hw
   refine⟨_,(by simp(disch:=omega) only[uB,uT,Nat.reduceEqDiff,↓reduceIte,uE,aC,aB,bN,BK,Nat.zero_add];exact rfl),?_⟩
   refine cg (yz ho h1 (by omega) (n:=(n:Int))) ?_ ?_
   ·intro v s2 hr2
    obtain⟨T3,e3,h3,hm3,hok3⟩:=p8 hr2
    have hz:qq (n:Int) T''=en n T'':=by unfold qq;rw[if_neg (by omega),Int.toNat_natCast]
    rw[hz] at e3
    have hrd:rdT T=en n T'':=by unfold rdT;rw[hw]
    rw[hrd]
    cases ht:en n T'' with
    |none=>rw[ht] at e3;cases e3
    |some p=>
     obtain⟨w,T4⟩:=p
     rw[ht] at e3
     simp only[Option.map_some,Option.some.injEq,Prod.mk.injEq] at e3
     obtain⟨rfl,rfl⟩:=e3
     refine⟨_,(by simp(disch:=omega) only[uB,uT,Nat.reduceEqDiff,↓reduceIte,uE,aC,aB,bN,BK,Nat.zero_add];exact rfl),?_⟩
     refine uH ?_
     refine ai rfl ?_
     exact⟨s2,rfl,h3,hm1.trans hm3 (fun _ _ e=>e),hok3⟩
   ·intro v s2 hr2
    obtain⟨e3,rfl,hm3⟩:=qc hr2
    have hz:qq (n:Int) T''=en n T'':=by unfold qq;rw[if_neg (by omega),Int.toNat_natCast]
    rw[hz] at e3
    have hrd:rdT T=none:=by
     unfold rdT;rw[hw];simp only
     cases ht:en n T'' with
     |none=>rfl
     |some p=>rw[ht] at e3;cases e3
    rw[hrd]
    refine uH ?_
    refine bX ?_
    exact⟨s2,rfl,hm1.trans hm3 (fun _ _ e=>e)⟩
 ·intro v s1 hr
  obtain⟨e,rfl,hm⟩:=qc hr
  have hrd:rdT T=none:=by
   unfold rdT
   cases hw:rdC T with
   |none=>rfl
   |some p=>rw[hw] at e;cases e
  rw[hrd]
  refine uH ?_
  refine bX ?_
  exact⟨s1,rfl,hm⟩
theorem Fx {n:Nat}{T T' a:Str}(h:en n T=some (a,T')):a.len=n∧T'.len+n=T.len:=by
 obtain⟨_,_,h1,h2⟩:=o8 h
 exact⟨h1,by omega⟩
theorem fp {T T' a:Str}(h:rdT T=some (a,T')):T'.len+(8+a.len)=T.len∧a.ok:=by
 unfold rdT at h
 cases hw:rdC T with
 |none=>rw[hw] at h;cases h
 |some p=>
  obtain⟨n,b⟩:=p
  rw[hw] at h
  have h1:=nd hw
  have h2:=Fx h
  have h3:=o8 h
  exact⟨by omega,h3.1⟩
end
end Go.Proofs.Ytofohkdkpbigiaa
end
section
namespace Go.Proofs.Ytofohkdkpbigiaa
open Go.Am
set_option maxRecDepth 10000
set_option maxHeartbeats 1000000
set_option linter.unusedSimpArgs false
def rdM {α:Type}(f:Str→Option (α×Str)):Nat→Str→Option (List α×Str)
 |0,T=>some ([],T)
 |n+1,T=>match f T with
  |some (a,T')=>match rdM f n T' with
   |some (l,T'')=>some (a::l,T'')
   |none=>none
  |none=>none
def ni {α:Type}(acc:List α):Option (List α×Str)→Option (List α×Str)
 |some (l,T)=>some (acc++l,T)
 |none=>none
theorem jS {α:Type}(o:Option (List α×Str)):ni [] o=o:=by cases o<;>rfl
theorem nw {α:Type}{f:Str→Option (α×Str)}{acc:List α}{k:Nat}{T T':Str}{a:α}(h:f T=some (a,T')):ni acc (rdM f (k+1) T)=ni (acc++[a]) (rdM f k T'):=by
 simp only[rdM,h]
 cases rdM f k T' with
 |none=>rfl
 |some p=>simp[ni]
theorem lJ {α:Type}{f:Str→Option (α×Str)}{acc:List α}{k:Nat}{T:Str}(h:f T=none):ni acc (rdM f (k+1) T)=none:=by
 simp only[rdM,h];rfl
def nI (T:Str):Option (Vl×Str):=match rdN T with
 |some (k,T1)=>match rdW T1 with
  |some (n,T2)=>match rdW T2 with
   |some (f,T3)=>match rdT T3 with
    |some (s,T4)=>some (⟨k,i64 n,f,s⟩,T4)
    |none=>none
   |none=>none
  |none=>none
 |none=>none
def kO (T:Str):Option (List Vl×Str):=match rdC T with
 |some (n,T1)=>rdM nI n T1
 |none=>none
def km (T:Str):Option (List (List Vl)×Str):=match rdC T with
 |some (n,T1)=>rdM kO n T1
 |none=>none
theorem zt {T T':Str}{n:Nat}(h:rdW T=some (n,T')):n<18446744073709551616∧T'.len+8=T.len:=by
 unfold rdW at h
 cases ht:en 8 T with
 |none=>rw[ht] at h;cases h
 |some p=>
  obtain⟨a,b⟩:=p
  rw[ht] at h
  simp only[Option.some.injEq,Prod.mk.injEq] at h
  obtain⟨rfl,rfl⟩:=h
  obtain⟨h0,_,h1,h2⟩:=o8 ht
  unfold Str.ok at h0
  rw[h1] at h0
  have:(256:Nat)^8=18446744073709551616:=by decide
  exact⟨by omega,by omega⟩
theorem LX {T T':Str}{v:Vl}(h:nI T=some (v,T')):tc v∧T'.len+aM (ib v)=T.len:=by
 unfold nI at h
 cases h1:rdN T with
 |none=>rw[h1] at h;cases h
 |some p=>
  obtain⟨k,T1⟩:=p
  rw[h1] at h
  simp only at h
  cases h2:rdW T1 with
  |none=>rw[h2] at h;cases h
  |some p=>
   obtain⟨n,T2⟩:=p
   rw[h2] at h
   simp only at h
   cases h3:rdW T2 with
   |none=>rw[h3] at h;cases h
   |some p=>
    obtain⟨f,T3⟩:=p
    rw[h3] at h
    simp only at h
    cases h4:rdT T3 with
    |none=>rw[h4] at h;cases h
    |some p=>
     obtain⟨w,T4⟩:=p
     rw[h4] at h
     simp only[Option.some.injEq,Prod.mk.injEq] at h
     obtain⟨rfl,rfl⟩:=h
     have a1:=cH h1
     have a2:=zt h2
     have a3:=zt h3
     have a4:=fp h4
     have a5:=yh n
     refine⟨⟨a4.2,a3.1,a5.1,a5.2,a1.1,a1.2.1⟩,?_⟩
     rw[nT]
     simp only
     omega
theorem Ao {α:Type}{f:Str→Option (α×Str)}{P:α→Prop}{g:α→List Str}(hf:∀T T' a,f T=some (a,T')→P a∧T'.len+aM (g a)=T.len):∀ {n:Nat} {T T':Str} {l:List α},rdM f n T=some (l,T')→(∀a∈l,P a)∧T'.len+aM (l.map g).flatten=T.len∧l.length=n
 |0,T,T',l,h=>by
  simp only[rdM,Option.some.injEq,Prod.mk.injEq] at h
  obtain⟨rfl,rfl⟩:=h
  exact⟨fun a ha=>(by cases ha),rfl,rfl⟩
 |n+1,T,T',l,h=>by
  simp only[rdM] at h
  cases h1:f T with
  |none=>rw[h1] at h;cases h
  |some p=>
   obtain⟨a,T1⟩:=p
   rw[h1] at h
   simp only at h
   cases h2:rdM f n T1 with
   |none=>rw[h2] at h;cases h
   |some p=>
    obtain⟨m,T2⟩:=p
    rw[h2] at h
    simp only[Option.some.injEq,Prod.mk.injEq] at h
    obtain⟨rfl,rfl⟩:=h
    obtain⟨k1,k2,k3⟩:=Ao hf h2
    obtain⟨j1,j2⟩:=hf _ _ _ h1
    refine⟨fun b hb=>?_,?_,by simp[k3]⟩
    ·rcases List.mem_cons.mp hb with rfl|hb
     ·exact j1
     ·exact k1 b hb
    ·rw[List.map_cons,List.flatten_cons,aA];omega
theorem Gy {T T':Str}{r:List Vl}(h:kO T=some (r,T')):(∀v∈r,tc v)∧T'.len+aM (cW r)=T.len:=by
 unfold kO at h
 cases h1:rdC T with
 |none=>rw[h1] at h;cases h
 |some p=>
  obtain⟨n,T1⟩:=p
  rw[h1] at h
  have a1:=nd h1
  obtain⟨k1,k2,_⟩:=Ao (P:=tc) (g:=ib) (fun T T' a h=>LX h) h
  refine⟨k1,?_⟩
  rw[cW,bL]
  show _+(8+_)=_
  omega
theorem FT {T T':Str}{r:List (List Vl)}(h:km T=some (r,T')):(∀l∈r,∀v∈l,tc v)∧T'.len+aM (dQ r)=T.len:=by
 unfold km at h
 cases h1:rdC T with
 |none=>rw[h1] at h;cases h
 |some p=>
  obtain⟨n,T1⟩:=p
  rw[h1] at h
  have a1:=nd h1
  obtain⟨k1,k2,_⟩:=Ao (P:=fun l=>∀v∈l,tc v) (g:=cW) (fun T T' a h=>Gy h) h
  refine⟨k1,?_⟩
  rw[dQ,bL]
  show _+(8+_)=_
  omega
end Go.Proofs.Ytofohkdkpbigiaa
end
