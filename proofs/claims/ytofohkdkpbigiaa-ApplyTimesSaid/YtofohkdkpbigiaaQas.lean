/-
  A part of the texts.
-/
import Derived.Test.YtofohkdkpbigiaaQar
section
namespace Go.Proofs.Ytofohkdkpbigiaa
open Go.Am
set_option maxRecDepth 10000
set_option maxHeartbeats 1000000
set_option linter.unusedSimpArgs false
def cZ (n:Int):Bool:= !decide (n<0)&& !decide (1099511627776<n)
def dV (r:List Vl):Bool:=r.all fa&&decide (r.length≤8)
def lR (c:Cmd):Bool:= !decide (c.kind<0)&& (!decide (5<c.kind)&& (!decide (c.client<0)&& (!decide (100<c.client)&& (!decide ((1000:Int)<(c.text.len:Int))&& (!decide (c.code<0)&& (!decide (21<c.code)&& !decide ((200:Int)<(c.rows.length:Int))))))))
def ux (c:Cmd):List Int:=[c.seq,c.snap,c.dl,c.after,c.held]
def lN (c:Cmd):Bool:=lR c&& ((ux c).all cZ&& (c.rows.all dV&& (fX c&&jk c)))
section
variable {O:bk}
theorem Km:X.fns.get 49=some Try.f49:=by kernel_rfl
structure Mi (O:bk):Prop where
 val:PE O
 short:O 81=none
 reads:O 68=none
 writes:O 69=none
 may:O 49=none
theorem EL (ho:Mi O){s:St}(htd:Tidy s){c:Cmd}{z:CL}(hc:jG s c z){Z:Nat→Prop}(hr:qk s Z z.x c.rows)(hok:nD c)(hrl:c.rows.length≤1000000)(hrl2:∀r∈c.rows,r.length≤1000000):
  Ca X O (.fn 49) [.agg (cj c z)] s fun r=>∃s',r= .ret (.bool (lN c)) s'∧Am.Mod No s s':=by
 obtain⟨vs,hs,_,hall⟩:=hr.ex
 have hvl:=hall.len
 obtain⟨ax,cx,xx,ex,_⟩:=hs.ex
 rw[List.length_map,hvl] at ex
 refine aZ ho.may Km rfl ?_
 unfold aB aB
 refine iQ ?_;refine ad (by simp(disch:=omega) only[uB,uT,da (cs:=cj c z) hc.qz];exact rfl) ?_;refine eH ?_;refine cV ?_
 refine eK fun s1 hn1 hm1 hb1=>?_
 have gx:∀ {s'},Am.Mod No s1 s'→aO X 38 (.ptr (some (s.nx,12))) s'=some (.old (.slc ax c.rows.length cx xx)):=fun hm=>by rw[←ex];exact(hb1.no hm).ld (i:=12) rfl fS rfl gX
 have gx1:=gx (Mod.refl _ s1)
 have l0:aO X 3 (.ptr (some (s.nx,0))) s1=some (.old (.int .i64 c.kind)):=hb1.ld (i:=0) rfl aJ rfl ay
 have l1:aO X 3 (.ptr (some (s.nx,1))) s1=some (.old (.int .i64 c.client)):=hb1.ld (i:=1) rfl aJ rfl ay
 have l10:aO X 9 (.ptr (some (s.nx,10))) s1=some (.old (.str c.text)):=hb1.ld (i:=10) rfl aE rfl aF
 have l11:aO X 3 (.ptr (some (s.nx,11))) s1=some (.old (.int .i64 c.code)):=hb1.ld (i:=11) rfl aJ rfl ay
 rw[ex] at hs
 refine eG (fun L s'=>L=[(1, .ptr (some (s.nx,0)))]∧s1=s'∧lR c=true) ?_ ?_
 ·have hres:lR c=false→lN c=false:=fun h=>by unfold lN;rw[h];rfl
  cases d0:decide (c.kind<0) with
  |true=>
   repeat(first|refine uS ?_ |refine aa rfl ?_ |refine ad (by simp(disch:=omega) only[uB,uT,jn,gK,iE,iA,eE,Nat.zero_add,l0,l1,l10,l11,gx1,aK aE,aQ,d0];exact rfl) ?_)
   refine uJ [1,48] ?_
   refine ae rfl rfl (fun hc3=>?_) (fun hc3=>?_)
   ·refine uG ?_
    refine ai rfl ?_
    exact⟨s1,by rw[hres (by unfold lR;simp only[d0,Bool.not_true,Bool.not_false,Bool.true_and,Bool.false_and])];rfl,hm1⟩
   ·cases hc3
  |false=>
   cases d1:decide (5<c.kind) with
   |true=>
    repeat(first|refine uS ?_ |refine aa rfl ?_ |refine ad (by simp(disch:=omega) only[uB,uT,jn,gK,iE,iA,eE,Nat.zero_add,l0,l1,l10,l11,gx1,aK aE,aQ,d0,d1];exact rfl) ?_)
    refine uJ [1,48] ?_
    refine ae rfl rfl (fun hc3=>?_) (fun hc3=>?_)
    ·refine uG ?_
     refine ai rfl ?_
     exact⟨s1,by rw[hres (by unfold lR;simp only[d0,d1,Bool.not_true,Bool.not_false,Bool.true_and,Bool.false_and])];rfl,hm1⟩
    ·cases hc3
   |false=>
    cases d2:decide (c.client<0) with
    |true=>
     repeat(first|refine uS ?_ |refine aa rfl ?_ |refine ad (by simp(disch:=omega) only[uB,uT,jn,gK,iE,iA,eE,Nat.zero_add,l0,l1,l10,l11,gx1,aK aE,aQ,d0,d1,d2];exact rfl) ?_)
     refine uJ [1,48] ?_
     refine ae rfl rfl (fun hc3=>?_) (fun hc3=>?_)
     ·refine uG ?_
      refine ai rfl ?_
      exact⟨s1,by rw[hres (by unfold lR;simp only[d0,d1,d2,Bool.not_true,Bool.not_false,Bool.true_and,Bool.false_and])];rfl,hm1⟩
     ·cases hc3
    |false=>
     cases d3:decide (100<c.client) with
     |true=>
      repeat(first|refine uS ?_ |refine aa rfl ?_ |refine ad (by simp(disch:=omega) only[uB,uT,jn,gK,iE,iA,eE,Nat.zero_add,l0,l1,l10,l11,gx1,aK aE,aQ,d0,d1,d2,d3];exact rfl) ?_)
      refine uJ [1,48] ?_
      refine ae rfl rfl (fun hc3=>?_) (fun hc3=>?_)
      ·refine uG ?_
       refine ai rfl ?_
       exact⟨s1,by rw[hres (by unfold lR;simp only[d0,d1,d2,d3,Bool.not_true,Bool.not_false,Bool.true_and,Bool.false_and])];rfl,hm1⟩
      ·cases hc3
     |false=>
      cases d4:decide ((1000:Int)<(c.text.len:Int)) with
      |true=>
       repeat(first|refine uS ?_ |refine aa rfl ?_ |refine ad (by simp(disch:=omega) only[uB,uT,jn,gK,iE,iA,eE,Nat.zero_add,l0,l1,l10,l11,gx1,aK aE,aQ,d0,d1,d2,d3,d4];exact rfl) ?_)
       refine uJ [1,48] ?_
       refine ae rfl rfl (fun hc3=>?_) (fun hc3=>?_)
       ·refine uG ?_
        refine ai rfl ?_
        exact⟨s1,by rw[hres (by unfold lR;simp only[d0,d1,d2,d3,d4,Bool.not_true,Bool.not_false,Bool.true_and,Bool.false_and])];rfl,hm1⟩
       ·cases hc3
      |false=>
       cases d5:decide (c.code<0) with
       |true=>
        repeat(first|refine uS ?_ |refine aa rfl ?_ |refine ad (by simp(disch:=omega) only[uB,uT,jn,gK,iE,iA,eE,Nat.zero_add,l0,l1,l10,l11,gx1,aK aE,aQ,d0,d1,d2,d3,d4,d5];exact rfl) ?_)
        refine uJ [1,48] ?_
        refine ae rfl rfl (fun hc3=>?_) (fun hc3=>?_)
        ·refine uG ?_
         refine ai rfl ?_
         exact⟨s1,by rw[hres (by unfold lR;simp only[d0,d1,d2,d3,d4,d5,Bool.not_true,Bool.not_false,Bool.true_and,Bool.false_and])];rfl,hm1⟩
        ·cases hc3
       |false=>
        cases d6:decide (21<c.code) with
        |true=>
         repeat(first|refine uS ?_ |refine aa rfl ?_ |refine ad (by simp(disch:=omega) only[uB,uT,jn,gK,iE,iA,eE,Nat.zero_add,l0,l1,l10,l11,gx1,aK aE,aQ,d0,d1,d2,d3,d4,d5,d6];exact rfl) ?_)
         refine uJ [1,48] ?_
         refine ae rfl rfl (fun hc3=>?_) (fun hc3=>?_)
         ·refine uG ?_
          refine ai rfl ?_
          exact⟨s1,by rw[hres (by unfold lR;simp only[d0,d1,d2,d3,d4,d5,d6,Bool.not_true,Bool.not_false,Bool.true_and,Bool.false_and])];rfl,hm1⟩
         ·cases hc3
        |false=>
         cases d7:decide ((200:Int)<(c.rows.length:Int)) with
         |true=>
          repeat(first|refine uS ?_ |refine aa rfl ?_ |refine ad (by simp(disch:=omega) only[uB,uT,jn,gK,iE,iA,eE,Nat.zero_add,l0,l1,l10,l11,gx1,aK aE,aQ,d0,d1,d2,d3,d4,d5,d6,d7];exact rfl) ?_)
          refine uJ [1,48] ?_
          refine ae rfl rfl (fun hc3=>?_) (fun hc3=>?_)
          ·refine uG ?_
           refine ai rfl ?_
           exact⟨s1,by rw[hres (by unfold lR;simp only[d0,d1,d2,d3,d4,d5,d6,d7,Bool.not_true,Bool.not_false,Bool.true_and,Bool.false_and])];rfl,hm1⟩
          ·cases hc3
         |false=>
          repeat(first|refine uS ?_ |refine aa rfl ?_ |refine ad (by simp(disch:=omega) only[uB,uT,jn,gK,iE,iA,eE,Nat.zero_add,l0,l1,l10,l11,gx1,aK aE,aQ,d0,d1,d2,d3,d4,d5,d6,d7];exact rfl) ?_)
          refine uJ [1,48] ?_
          refine ae rfl rfl (fun hc3=>?_) (fun hc3=>?_)
          ·cases hc3
          ·refine uG ?_
           exact dx [(1, .ptr (some (s.nx,0)))] ⟨rfl,rfl,by unfold lR;simp only[d0,d1,d2,d3,d4,d5,d6,d7,Bool.not_true,Bool.not_false,Bool.true_and]⟩ (by simp[aI,aD])
 ·rintro L _ ⟨rfl,rfl,hhd⟩
  have hmc:lN c=((ux c).all cZ&& (c.rows.all dV&& (fX c&&jk c))):=by unfold lN;rw[hhd];rfl
  rw[hmc]
  refine eG (fun L s'=>L=[(1, .ptr (some (s.nx,0)))]∧Am.Mod No s1 s'∧(ux c).all cZ=true) ?_ ?_
  ·refine iQ ?_
   refine ad (by simp(disch:=omega) only[uB,uT,kE,ly,mJ,nj,nZ,Nat.zero_add,hb1.ld (i:=2) rfl aJ rfl ay,hb1.ld (i:=3) rfl aJ rfl ay,hb1.ld (i:=7) rfl aJ rfl ay,hb1.ld (i:=8) rfl aJ rfl ay,hb1.ld (i:=9) rfl aJ rfl ay,Be];exact rfl) ?_
   refine eH ?_
   refine cV ?_
   refine eK fun s2 hn2 hm2 hb2=>?_
   have hsl:Sli s2 (.slc (some (s1.nx,0,1)) 5 5 true) 1 ((ux c).map iR):=hb2.sli (rows:=(ux c).map iR) (fun r hr=>by obtain⟨q,_,rfl⟩:=List.mem_map.mp hr;rfl) rfl
   have h5:(ux c).length=5:=rfl
   generalize ux c=ts at*
   let I:Nat→Sl→St→Prop:=fun i L s'=>s2=s'∧i≤5∧(ts.take i).all cZ=true∧L=[(1, .ptr (some (s.nx,0))),(59, .slc (some (s1.nx,0,1)) 5 5 true),(60, .int .i64 ((5:Nat):Int)),(61, .int .i64 (i:Int))]
   refine uH ?_
   refine WL.less (M:=[(1, .ptr (some (s.nx,0))),(59, .slc (some (s1.nx,0,1)) 5 5 true),(60, .int .i64 ((5:Nat):Int)),(61, .int .i64 ((0:Nat):Int))]) ?_ rfl
   refine bm I (fun i=>5- i) ?_ 5 0 _ s2 (by simp) ⟨rfl,Nat.zero_le _,rfl,rfl⟩
   rintro i L _ ⟨rfl,hi,hall5,rfl⟩
   refine uG ?_
   refine uJ [1,59,60,61,62] ?_
   refine ae rfl rfl (fun hc2=>?_) (fun hc2=>?_)
   ·simp at hc2
    obtain⟨q,hq⟩:∃q,ts[i]? =some q:=⟨_,List.getElem?_eq_getElem (by omega)⟩
    obtain⟨b5,off5,c5,x5,t5,n5,e5,l5,k2,k3⟩:=hsl.at (i:=i) (r:=iR q) (by simp[hq])
    rw[List.length_map,h5] at e5
    cases e5
    have k4:=fO k3
    have hf:ts.all cZ=false∨cZ q=true:=by
     cases hm:cZ q with
     |true=>exact .inr rfl
     |false=>exact .inl (by rw[List.all_eq_false];exact⟨q,List.mem_of_getElem? hq,by rw[hm];exact Bool.false_ne_true⟩)
    have step:cZ q=true→(ts.take (i+1)).all cZ=true:=fun h=>by
     rw[List.take_add_one,hq,List.all_append,hall5];simp[h]
    have hm0:=hm1.trans hm2 (fun _ _ h=>h)
    cases d0:decide (q<0) with
    |true=>
     repeat(first|refine uS ?_ |refine aa rfl ?_ |refine ad (by simp(disch:=omega) only[uB,uT,aT mB ay,aj aJ rfl ay k2 k4,Int.toNat_natCast,d0];exact rfl) ?_)
     refine uJ [1,59,60,61,70] ?_
     refine ae rfl rfl (fun hc3=>?_) (fun hc3=>?_)
     ·refine uG ?_
      refine ai rfl ?_
      exact⟨s2,by rw[hf.resolve_right (by unfold cZ;rw[d0];simp)];rfl,hm0⟩
     ·cases hc3
    |false=>
     repeat(first|refine uS ?_ |refine aa rfl ?_ |refine ad (by simp(disch:=omega) only[uB,uT,aT mB ay,aj aJ rfl ay k2 k4,Int.toNat_natCast,d0];exact rfl) ?_)
     refine uJ [1,59,60,61,70] ?_
     refine ae rfl rfl (fun hc3=>?_) (fun hc3=>?_)
     ·refine uG ?_
      refine ai rfl ?_
      exact⟨s2,by rw[hf.resolve_right (by unfold cZ;rw[d0,hc3];simp)];rfl,hm0⟩
     ·refine uG ?_
      exact aM (i+1) [(1, .ptr (some (s.nx,0))),(59, .slc (some (s1.nx,0,1)) 5 5 true),(60, .int .i64 ((5:Nat):Int)),(61, .int .i64 ((i+1:Nat):Int))] ⟨rfl,by omega,step (by unfold cZ;rw[d0,hc3];rfl),rfl⟩ (by show 5- (i+1)<5- i;omega) (by simp[aI,aD])
   ·simp at hc2
    have:i=5:=by omega
    subst this
    rw[List.take_of_length_le (by omega)] at hall5
    refine uG ?_
    exact dx [(1, .ptr (some (s.nx,0)))] ⟨rfl,hm2,hall5⟩ (by simp[aI,aD])
  ·rintro L s2 ⟨rfl,hm2,htm⟩
   rw[htm]
   refine eG (fun L s'=>L=[(1, .ptr (some (s.nx,0)))]∧Am.Mod No s1 s'∧c.rows.all dV=true) ?_ ?_
   ·repeat(first|refine uS ?_ |refine aa rfl ?_ |refine ad (by simp(disch:=omega) only[uB,uT,eE,Nat.zero_add,gx hm2];exact rfl) ?_)
    have hokr:=hok.rows
    generalize c.rows=rows at*
    let I:Nat→Sl→St→Prop:=fun i L s'=>Am.Mod No s1 s'∧i≤rows.length∧(rows.take i).all dV=true∧L=[(1, .ptr (some (s.nx,0))),(73, .slc ax rows.length cx xx),(74, .int .i64 (rows.length:Int)),(75, .int .i64 (i:Int))]
    refine WL.less (M:=[(1, .ptr (some (s.nx,0))),(73, .slc ax rows.length cx xx),(74, .int .i64 (rows.length:Int)),(75, .int .i64 ((0:Nat):Int))]) ?_ rfl
    refine bm I (fun i=>rows.length- i) ?_ rows.length 0 _ s2 (by simp) ⟨hm2,Nat.zero_le _,rfl,rfl⟩
    rintro i L s3 ⟨hm3,hi,hallr,rfl⟩
    refine uG ?_
    refine uJ [1,73,74,75,76] ?_
    refine ae rfl rfl (fun hc2=>?_) (fun hc2=>?_)
    ·simp at hc2
     obtain⟨q,hq⟩:∃q,rows[i]? =some q:=⟨_,List.getElem?_eq_getElem (by omega)⟩
     obtain⟨w,hw,hws,hwz⟩:=sJ hall hq
     have hm03:=hm1.trans hm3 (fun _ _ h=>h)
     obtain⟨b5,off5,c5,x5,t5,n5,e5,_,k2,k3⟩:=(hs.mod hm03 (fun _ _ h=>h)).at (i:=i) (r:=[w]) (by rw[List.getElem?_map,hw];rfl)
     rw[List.length_map,hvl] at e5
     cases e5
     have k4:=fO k3
     obtain⟨aw,cw,xw,rfl,_⟩:=hws.ex
     rw[List.length_map] at hws hwz k4
     have hqm:=hokr q (List.mem_of_getElem? hq)
     have hql:=hrl2 q (List.mem_of_getElem? hq)
     have hf:dV q=false→rows.all dV=false:=fun hm=>by rw[List.all_eq_false];exact⟨q,List.mem_of_getElem? hq,by rw[hm];exact Bool.false_ne_true⟩
     have step:dV q=true→(rows.take (i+1)).all dV=true:=fun h=>by
      rw[List.take_add_one,hq,List.all_append,hallr];simp[h]
     refine su ?_
     refine cV ?_
     refine eG (fun L s'=>L=[(1, .ptr (some (s.nx,0))),(73, .slc (some (b5,off5,1)) rows.length cx xx),(74, .int .i64 (rows.length:Int)),(75, .int .i64 (i:Int))]∧Am.Mod No s1 s'∧dV q=true) ?_ ?_
     ·refine AY ?_
      refine iQ ?_;refine ad (by simp(disch:=omega) only[uB,uT,aT fS fJ,aj jz rfl fJ k2 k4,Int.toNat_natCast];exact rfl) ?_;refine eH ?_;refine cV ?_
      refine eG (fun L s'=>L=[(1, .ptr (some (s.nx,0))),(6, .slc aw q.length cw xw),(73, .slc (some (b5,off5,1)) rows.length cx xx),(74, .int .i64 (rows.length:Int)),(75, .int .i64 (i:Int))]∧Am.Mod No s1 s'∧q.all fa=true) ?_ ?_
      ·refine uG ?_
       let J:Nat→Sl→St→Prop:=fun k L s'=>Am.Mod No s1 s'∧k≤q.length∧(q.take k).all fa=true∧L=[(1, .ptr (some (s.nx,0))),(6, .slc aw q.length cw xw),(73, .slc (some (b5,off5,1)) rows.length cx xx),(74, .int .i64 (rows.length:Int)),(75, .int .i64 (i:Int)),(79, .slc aw q.length cw xw),(80, .int .i64 (q.length:Int)),(81, .int .i64 (k:Int))]
       refine WL.less (M:=[(1, .ptr (some (s.nx,0))),(6, .slc aw q.length cw xw),(73, .slc (some (b5,off5,1)) rows.length cx xx),(74, .int .i64 (rows.length:Int)),(75, .int .i64 (i:Int)),(79, .slc aw q.length cw xw),(80, .int .i64 (q.length:Int)),(81, .int .i64 ((0:Nat):Int))]) ?_ rfl
       refine bm J (fun k=>q.length- k) ?_ q.length 0 _ s3 (by simp) ⟨hm3,Nat.zero_le _,rfl,rfl⟩
       rintro k L s4 ⟨hm4,hk,hallk,rfl⟩
       refine uG ?_
       refine uJ [1,6,73,74,75,79,80,81,82] ?_
       refine ae rfl rfl (fun hc3=>?_) (fun hc3=>?_)
       ·simp at hc3
        obtain⟨v,hv⟩:∃v,q[k]? =some v:=⟨_,List.getElem?_eq_getElem (by omega)⟩
        have hm04:=hm1.trans hm4 (fun _ _ h=>h)
        obtain⟨b6,off6,c6,x6,t6,n6,e6,_,j2,j3⟩:=(hws.mod hm04 (fun _ _ h=>h)).at (i:=k) (r:=vl v) (by rw[List.getElem?_map,hv];rfl)
        rw[List.length_map] at e6
        cases e6
        obtain⟨_,v2,_⟩:=hqm v (List.mem_of_getElem? hv)
        obtain⟨cc,hcc,_⟩:=eo (cs:=vl v) (zs:=[.int .i64 0, .int .i64 0, .int .u64 0, .str ⟨0,0⟩]) rfl
        (repeat(first|refine uS ?_ |refine aa rfl ?_));refine ad (by simp(disch:=omega) only[uB,uT,aT jz dL,cG fH rfl dL j2 j3,Int.toNat_natCast,bS nR rfl,AV.cells,vm hcc];exact rfl) ?_;(repeat(first|refine uS ?_ |refine aa rfl ?_))
        refine dG hcc fun s5 hn5 hm5 g5=>?_
        repeat(first|refine uS ?_ |refine aa rfl ?_ |refine ad (by simp(disch:=omega) only[uB,uT,g5.all fH rfl dL];exact rfl) ?_)
        refine au (Fa ho.val v2) ?_ ?_
        ·rintro r s6 ⟨s6',e,hm6⟩
         cases e
         have hm16:=(hm4.trans hm5 (fun _ _ h=>h)).trans hm6 (fun _ _ h=>h)
         refine uL ?_
         refine uH ?_
         refine uJ [1,6,73,74,75,79,80,81,87] ?_
         refine ae rfl rfl (fun hc4=>?_) (fun hc4=>?_)
         ·refine uG ?_
          refine ai rfl ?_
          refine⟨s6,?_,hm1.trans hm16 (fun _ _ h=>h)⟩
          have hq0:q.all fa=false:=by rw[List.all_eq_false];exact⟨v,List.mem_of_getElem? hv,by simpa using hc4⟩
          rw[hf (by unfold dV;rw[hq0];rfl)];rfl
         ·refine uG ?_
          refine aM (k+1) [(1, .ptr (some (s.nx,0))),(6, .slc (some (b6,off6,4)) q.length cw xw),(73, .slc (some (b5,off5,1)) rows.length cx xx),(74, .int .i64 (rows.length:Int)),(75, .int .i64 (i:Int)),(79, .slc (some (b6,off6,4)) q.length cw xw),(80, .int .i64 (q.length:Int)),(81, .int .i64 ((k+1:Nat):Int))] ⟨hm16,by omega,?_,rfl⟩ (by show q.length- (k+1)<q.length- k;omega) (by simp[aI,aD])
          rw[List.take_add_one,hv,List.all_append,hallk]
          simp at hc4
          simp[hc4]
        ·rintro r s' ⟨_,e,_⟩
         cases e
       ·simp at hc3
        have:k=q.length:=by omega
        subst this
        rw[List.take_length] at hallk
        refine uG ?_
        exact dx [(1, .ptr (some (s.nx,0))),(6, .slc aw q.length cw xw),(73, .slc (some (b5,off5,1)) rows.length cx xx),(74, .int .i64 (rows.length:Int)),(75, .int .i64 (i:Int))] ⟨rfl,hm4,hallk⟩ (by simp[aI,aD])
      ·rintro L s4 ⟨rfl,hm4,hq2⟩
       have e8:decide ((8:Int)<(q.length:Int))= !decide (q.length≤8):=by rw[Bool.eq_iff_iff];simp;omega
       repeat(first|refine uS ?_ |refine aa rfl ?_ |refine ad (by simp(disch:=omega) only[uB,uT,e8];exact rfl) ?_)
       refine uJ [1,73,74,75,91] ?_
       refine ae rfl rfl (fun hc3=>?_) (fun hc3=>?_)
       ·refine uG ?_
        refine ai rfl ?_
        refine⟨s4,?_,hm1.trans hm4 (fun _ _ h=>h)⟩
        have h8:decide (q.length≤8)=false:=by simpa using hc3
        rw[hf (by unfold dV;rw[hq2,h8];rfl)];rfl
       ·refine uG ?_
        have h8:decide (q.length≤8)=true:=by simpa using hc3
        exact dx [(1, .ptr (some (s.nx,0))),(73, .slc (some (b5,off5,1)) rows.length cx xx),(74, .int .i64 (rows.length:Int)),(75, .int .i64 (i:Int))] ⟨rfl,hm4,by unfold dV;rw[hq2,h8];rfl⟩ (by simp[aI,aD])
     ·rintro L s4 ⟨rfl,hm4,hq2⟩
      refine uG ?_
      exact aM (i+1) [(1, .ptr (some (s.nx,0))),(73, .slc (some (b5,off5,1)) rows.length cx xx),(74, .int .i64 (rows.length:Int)),(75, .int .i64 ((i+1:Nat):Int))] ⟨hm4,by omega,step hq2,rfl⟩ (by show rows.length- (i+1)<rows.length- i;omega) (by simp[aI,aD])
    ·simp at hc2
     have:i=rows.length:=by omega
     subst this
     rw[List.take_length] at hallr
     refine uG ?_
     exact dx [(1, .ptr (some (s.nx,0)))] ⟨rfl,hm3,hallr⟩ (by simp[aI,aD])
   ·rintro L s3 ⟨rfl,hm3,hrows⟩
    rw[hrows]
    have hm03:=hm1.trans hm3 (fun _ _ h=>h)
    repeat(first|refine uS ?_ |refine aa rfl ?_ |refine ad (by simp(disch:=omega) only[uB,uT,(hb1.no hm3).all bY rfl cD];exact rfl) ?_)
    refine au (Dm ho.short ho.reads (hc.no hm03)) ?_ ?_
    ·rintro r s4 ⟨s4',e,hm4⟩
     cases e
     have hm14:=hm3.trans hm4 (fun _ _ h=>h)
     have hm04:=hm1.trans hm14 (fun _ _ h=>h)
     cases d:fX c with
     |false=>
      refine bC (by simp(disch:=omega) only[uB,uT,aQ];exact rfl) ?_
      refine uG ?_
      refine ai rfl ?_
      exact⟨s4,rfl,hm04⟩
     |true=>
      refine bC (by simp(disch:=omega) only[uB,uT,(hb1.no hm14).all bY rfl cD];exact rfl) ?_
      refine au (AM ho.short ho.writes (hm04.tidy htd) (hc.no hm04)) ?_ ?_
      ·rintro r s5 ⟨s5',e,hm5⟩
       cases e
       refine uL ?_
       refine uG ?_
       refine ai rfl ?_
       exact⟨s5,rfl,hm04.trans hm5 (fun _ _ h=>h)⟩
      ·rintro r s' ⟨_,e,_⟩
       cases e
    ·rintro r s' ⟨_,e,_⟩
     cases e
end
end Go.Proofs.Ytofohkdkpbigiaa
end
section
namespace Go.Proofs.Ytofohkdkpbigiaa
open Go.Am
set_option maxRecDepth 10000
set_option maxHeartbeats 1000000
set_option linter.unusedSimpArgs false
def mf (t:Str):Nat:=Nat.xor 4294967295 (Bk t)
def Ad (t:Str):List Nat:=[mf t/2^24 % 256,mf t/2^16 % 256,mf t/2^8 % 256,mf t % 256]
def iY (t:Str):Str:=t.cat (gP (Ad t))
theorem yQ (t:Str):okB (Ad t):=fun b hb=>by
 simp only[Ad,List.mem_cons,List.not_mem_nil,or_false] at hb
 rcases hb with rfl|rfl|rfl|rfl<;>exact Nat.mod_lt _ (by decide)
theorem nt (t:Str):(iY t).len=t.len+4:=by rw[iY,jB,jF];rfl
theorem EC {t:Str}(h:t.ok):(iY t).sub 0 ((iY t).len- 4)=t:=by
 rw[nt,Nat.add_sub_cancel]
 exact ru h (zI (yQ t))
def nC (s:Str):Option Str:=if 4≤s.len∧(iY (s.sub 0 (s.len- 4))).beq s=true then some (s.sub 0 (s.len- 4)) else none
theorem Ck {t:Str}(h:t.ok):nC (iY t)=some t:=by
 unfold nC
 rw[EC h,if_pos ⟨by rw[nt];omega,Str.gj _⟩]
theorem CS {s t:Str}(h:nC s=some t):s=iY t∧t.ok∧t.len+4=s.len:=by
 unfold nC at h
 split at h
 ·rename_i h1
  cases h
  refine⟨(Str.o8 h1.2).symm,An _ _ _,?_⟩
  rw[uI];omega
 ·cases h
section
variable {O:bk}
theorem Ll:X.fns.get 44=some Try.f44:=by kernel_rfl
theorem Ge:X.fns.get 28=some Try.f28:=by kernel_rfl
theorem J5:X.fns.get 30=some Try.f30:=by kernel_rfl
theorem yK {s:St}{a b c d:Nat}:bh X 83 4 [(0,bA a),(1,bA b),(2,bA c),(3,bA d)] s=some (.val (.slc (some (s.nx,0,1)) 4 4 true) {s with h:=s.h.put s.nx (.cells (Tr.of ([a,b,c,d].map bA)) 4),nx:=s.nx+1}):=by
 simp only[bh,cJ,qw,zQ,bA]
 simp only[dQ,kR,cO,AV.cells,db,eV,aX,gM]
 rfl
theorem Buf.lit {s:St}{l:List Nat}(h:okB l){n:Nat}(hn:n=l.length){x:Bool}:Buf {s with h:=s.h.put s.nx (.cells (Tr.of (l.map bA)) n),nx:=s.nx+1} (.slc (some (s.nx,0,1)) n n x) (gP l):=by
 subst hn
 refine⟨l,h,rfl, .inr ⟨s.nx,x,Tr.of (l.map bA),?_,Nat.lt_succ_self _,⟨0,?_⟩,?_⟩,fun r hr=>by obtain⟨b,_,rfl⟩:=List.mem_map.mp hr;rfl⟩
 ·simp
 ·simp only[List.length_map,Nat.mul_one];exact bu
 ·rw[uR]
  exact jt (by rw[List.drop_zero,List.take_of_length_le (by simp)]) (by simp)
structure Bw (O:bk):Prop where
 sum:O 64=some mQ
 sum4:O 41=some mQ
 put:O 44=none
 rput:O 28=none
 get:O 30=none
theorem GY {t:Str}{s:St}(hl:t.len≤1000000000):mQ [.str t] s=some (.ret (.int .u32 (mf t:Int)) s):=by
 simp only[mQ,Nat.ble_eq.mpr hl];rfl
theorem yL (ho:Bw O){s:St}{t:Str}(hl:t.len≤1000000000):
  Ca X O (.fn 44) [.str t] s fun z=>∃s',z= .ret (.str (iY t)) s'∧Am.Mod No s s':=by
 refine aZ ho.put Ll rfl ?_
 unfold aB aB
 refine uG ?_
 refine au (qx (Q:=fun z=>z= .ret (.int .u32 (mf t:Int)) s) ho.sum (GY hl) rfl) ?_ ?_
 ·rintro v s' e
  cases e
  refine uL ?_
  have hbuf:=Buf.lit (s:=s) (yQ t) (n:=4) rfl (x:=true)
  have hconv:=hbuf.str (X:=X) cJ aE gT
  have h24:∀ {c:Bool},aU X .shr 110 c (.int .u32 (mf t:Int)) (.int .u64 24)=some (.int .u32 ((mf t/2^24:Nat):Int)):=fun{c}=>lW (m:=24) (by decide)
  have h16:∀ {c:Bool},aU X .shr 110 c (.int .u32 (mf t:Int)) (.int .u64 16)=some (.int .u32 ((mf t/2^16:Nat):Int)):=fun{c}=>lW (m:=16) (by decide)
  have h8:∀ {c:Bool},aU X .shr 110 c (.int .u32 (mf t:Int)) (.int .u64 8)=some (.int .u32 ((mf t/2^8:Nat):Int)):=fun{c}=>lW (m:=8) (by decide)
  have hadd:=fun{c:Bool}=>HN (X:=X) (t:=9) (c:=c) (a:=t) (b:=gP (Ad t)) (by rw[jF];simp[Ad];omega)
  simp only[Ad,List.map_cons,List.map_nil] at hconv hadd
  repeat(first|refine uS ?_ |refine aa rfl ?_ |refine ad (by simp(disch:=omega) only[uB,uT,h24,h16,h8,DO sH gT,yK,hconv,hadd];exact rfl) ?_)
  refine ai rfl ?_
  exact⟨_,rfl,(Mod.refl _ s).new _⟩
 ·rintro v s' e
  cases e
theorem CO (ho:Bw O){s:St}{t:Str}(hl:t.len≤1000000000):
  Ca X O (.fn 28) [.str t] s fun z=>∃s',z= .ret (.str (iY t)) s'∧Am.Mod No s s':=by
 refine aZ ho.rput Ge rfl ?_
 unfold aB aB
 refine uG ?_
 refine au (qx (Q:=fun z=>z= .ret (.int .u32 (mf t:Int)) s) ho.sum4 (GY hl) rfl) ?_ ?_
 ·rintro v s' e
  cases e
  refine uL ?_
  have hbuf:=Buf.lit (s:=s) (yQ t) (n:=4) rfl (x:=true)
  have hconv:=hbuf.str (X:=X) cJ aE gT
  have h24:∀ {c:Bool},aU X .shr 110 c (.int .u32 (mf t:Int)) (.int .u64 24)=some (.int .u32 ((mf t/2^24:Nat):Int)):=fun{c}=>lW (m:=24) (by decide)
  have h16:∀ {c:Bool},aU X .shr 110 c (.int .u32 (mf t:Int)) (.int .u64 16)=some (.int .u32 ((mf t/2^16:Nat):Int)):=fun{c}=>lW (m:=16) (by decide)
  have h8:∀ {c:Bool},aU X .shr 110 c (.int .u32 (mf t:Int)) (.int .u64 8)=some (.int .u32 ((mf t/2^8:Nat):Int)):=fun{c}=>lW (m:=8) (by decide)
  have hadd:=fun{c:Bool}=>HN (X:=X) (t:=9) (c:=c) (a:=t) (b:=gP (Ad t)) (by rw[jF];simp[Ad];omega)
  simp only[Ad,List.map_cons,List.map_nil] at hconv hadd
  repeat(first|refine uS ?_ |refine aa rfl ?_ |refine ad (by simp(disch:=omega) only[uB,uT,h24,h16,h8,DO sH gT,yK,hconv,hadd];exact rfl) ?_)
  refine ai rfl ?_
  exact⟨_,rfl,(Mod.refl _ s).new _⟩
 ·rintro v s' e
  cases e
theorem FQ (ho:Bw O){s:St}{t:Str}(hl:t.len≤1000000000):
  Ca X O (.fn 30) [.str t] s fun z=>∃s',z= .ret (.tup (match nC t with|some b=>[.str b, .int .i64 0]|none=>[.str bE, .int .i64 3])) s'∧Am.Mod No s s':=by
 refine aZ ho.get J5 rfl ?_
 unfold aB aB
 have hsub:wr .i64 ((t.len:Int)- 4)=(t.len:Int)- 4:=Dc (by omega) (by omega)
 cases d:decide ((t.len:Int)- 4<0) with
 |true=>
  repeat(first|refine uS ?_ |refine aa rfl ?_ |refine ad (by simp(disch:=omega) only[uB,uT,aK aE,hsub,d,aQ];exact rfl) ?_)
  refine uJ [0,4,17] ?_
  refine ae rfl rfl (fun hc=>?_) (fun hc=>?_)
  ·repeat(first|refine uS ?_ |refine aa rfl ?_ |refine ad (by simp(disch:=omega) only[uB,uT,bn];exact rfl) ?_)
   refine ai rfl ?_
   refine⟨s,?_,Mod.refl _ _⟩
   have:nC t=none:=by
    unfold nC
    rw[if_neg]
    intro h;simp at d;omega
   rw[this];rfl
  ·cases hc
 |false=>
  have hle:4≤t.len:=by simp at d;omega
  have hn:((t.len:Int)- 4).toNat=t.len- 4:=by omega
  repeat(first|refine uS ?_ |refine aa rfl ?_ |refine ad (by simp(disch:=omega) only[uB,uT,aK aE,hsub,d,Gw aE,hn];exact rfl) ?_)
  refine au (yL ho (t:=t.sub 0 (t.len- 4)) (by rw[uI];omega)) ?_ ?_
  ·rintro r s1 ⟨s1',e,hm1⟩
   cases e
   refine uL ?_
   refine uH ?_
   refine uJ [0,4,17] ?_
   refine ae rfl rfl (fun hc=>?_) (fun hc=>?_)
   ·repeat(first|refine uS ?_ |refine aa rfl ?_ |refine ad (by simp(disch:=omega) only[uB,uT,bn];exact rfl) ?_)
    refine ai rfl ?_
    refine⟨s1,?_,hm1⟩
    have:nC t=none:=by
     unfold nC
     rw[if_neg]
     intro h;rw[h.2] at hc;cases hc
    rw[this];rfl
   ·repeat(first|refine uS ?_ |refine aa rfl ?_ |refine ad (by simp(disch:=omega) only[uB,uT,Gw aE,hn];exact rfl) ?_)
    refine ai rfl ?_
    refine⟨s1,?_,hm1⟩
    have:nC t=some (t.sub 0 (t.len- 4)):=by
     unfold nC
     rw[if_pos ⟨hle,by simpa using hc⟩]
    rw[this];rfl
  ·rintro r s' ⟨_,e,_⟩
   cases e
end
end Go.Proofs.Ytofohkdkpbigiaa
end
section
namespace Go.Proofs.Ytofohkdkpbigiaa
open Go.Am
set_option maxRecDepth 10000
set_option maxHeartbeats 1000000
set_option linter.unusedSimpArgs false
def oO (c:Cmd):Str:=bE.app (cg c)
def gu (c:Cmd):Str×Int:=if lN c=true then(if(iY (oO c)).len≤20000 then(iY (oO c),0) else(bE,2)) else(bE,1)
section
variable {O:bk}
theorem KR:X.fns.get 33=some Try.f33:=by kernel_rfl
structure Mf (O:bk):Prop where
 wri:Pe O
 may:Mi O
 sl:Bw O
 put:O 33=none
theorem Hg:bf X 120 []=some (.pure (.agg [.slc none 0 0 true])):=by
 simp only[bf,zZ,Ax,cI,cP,bZ,cO,AV.cells,db,eL]
theorem Iz {s:St}:dS (.agg [.slc none 0 0 true]) s=some (.val (.ptr (some (s.nx,0))) {s with h:=s.h.put s.nx (.cells (Tr.of [.slc none 0 0 true]) 1),nx:=s.nx+1}):=da rfl
structure p9 (s:St)(c:Cmd)(z:CL):Prop where
 h:jG s c z
 r:∃Z:Nat→Prop,qk s Z z.x c.rows∧∀d,Z d→d<s.nx
 b:∀d,z.has d→d<s.nx
 ok:nD c
theorem p9.no {s t:St}{c:Cmd}{z:CL}(h:p9 s c z)(hm:Am.Mod No s t):p9 t c z:=
 let⟨Z,h1,h2⟩:=h.r;⟨h.h.no hm,⟨Z,h1.mod hm (fun _ _ h=>h),fun d hd=>Nat.lt_of_lt_of_le (h2 d hd) hm.nx⟩,fun d hd=>Nat.lt_of_lt_of_le (h.b d hd) hm.nx,h.ok⟩
theorem AX {c:Cmd}:c.rows.length≤aN (cg c)∧∀r∈c.rows,r.length≤aN (cg c):=by
 have h0:aN (dJ c.rows)≤aN (cg c):=by simp only[cg,jg,az];omega
 have h1:∀l:List (List Vl),l.length≤aN (l.map cU).flatten:=by
  intro l
  induction l with
  |nil=>exact Nat.le_refl _
  |cons r l ih=>rw[List.map_cons,List.flatten_cons,az,cU,bO];show _+1≤8+_+_;omega
 have h2:∀l:List Vl,l.length≤aN (l.map gR).flatten:=by
  intro l
  induction l with
  |nil=>exact Nat.le_refl _
  |cons r l ih=>rw[List.map_cons,List.flatten_cons,az,nT];simp only[List.length_cons];omega
 have h3:∀l:List (List Vl),∀r∈l,aN (cU r)≤aN (l.map cU).flatten:=by
  intro l
  induction l with
  |nil=>intro r hr;cases hr
  |cons q l ih=>
   intro r hr
   rw[List.map_cons,List.flatten_cons,az]
   rcases List.mem_cons.mp hr with rfl|hr
   ·omega
   ·have:=ih r hr;omega
 have h4:aN (dJ c.rows)=8+aN (c.rows.map cU).flatten:=by rw[dJ,bO];rfl
 refine⟨by have:=h1 c.rows;omega,fun r hr=>?_⟩
 have a1:=h3 c.rows r hr
 have a2:=h2 r
 have a3:aN (cU r)=8+aN (r.map gR).flatten:=by rw[cU,bO];rfl
 omega
theorem E0 (ho:Mf O){s:St}(htd:Tidy s){c:Cmd}{z:CL}(hc:p9 s c z)(hl:aN (cg c)≤1000000):
  Ca X O (.fn 33) [.agg (cj c z)] s fun r=>∃s',r= .ret (.tup [.str (gu c).1, .int .i64 (gu c).2]) s'∧Am.Mod No s s':=by
 obtain⟨hr1,hr2⟩:=AX (c:=c)
 refine aZ ho.put KR rfl ?_
 unfold aB aB
 (repeat(first|refine uS ?_ |refine aa rfl ?_));refine ad (by simp(disch:=omega) only[uB,uT,da (cs:=cj c z) hc.h.qz];exact rfl) ?_;(repeat(first|refine uS ?_ |refine aa rfl ?_))
 refine eK fun s1 hn1 hm1 hb1=>?_
 have hc1:=hc.no hm1
 repeat(first|refine uS ?_ |refine aa rfl ?_ |refine ad (by simp(disch:=omega) only[uB,uT,hb1.all bY rfl cD];exact rfl) ?_)
 obtain⟨Z,hZ,hZlt⟩:=hc.r
 refine au (EL ho.may (hm1.tidy htd) hc1.h (hZ.mod hm1 (fun _ _ h=>h)) hc.ok (by omega) (fun r hr=>by have:=hr2 r hr;omega)) ?_ ?_
 ·rintro r s2 ⟨s2',e,hm2⟩
  cases e
  have hm02:=hm1.trans hm2 (fun _ _ h=>h)
  refine uL ?_
  refine uH ?_
  refine uJ [1,8] ?_
  refine ae rfl rfl (fun hcm=>?_) (fun hcm=>?_)
  ·repeat(first|refine uS ?_ |refine aa rfl ?_ |refine ad (by simp(disch:=omega) only[uB,uT,bn];exact rfl) ?_)
   refine ai rfl ?_
   have:lN c=false:=by simpa using hcm
   exact⟨s2,by unfold gu;rw[this];rfl,hm02⟩
  ·have hmay:lN c=true:=by simpa using hcm
   (repeat(first|refine uS ?_ |refine aa rfl ?_));refine ad (by simp(disch:=omega) only[uB,uT,Hg,Iz];exact rfl) ?_;(repeat(first|refine uS ?_ |refine aa rfl ?_))
   refine eK fun s3 hn3 hm3 hb3=>?_
   have hm03:=hm02.trans hm3 (fun _ _ h=>h)
   have htd3:=hm03.tidy htd
   have hc3:=hc.no hm03
   have hw:Wri s3 s2.nx (fun d=>d=s2.nx) bE:=⟨⟨_,hb3,Buf.nil,fun d hd=>by cases hd⟩,rfl,fun d hd=>by subst hd;omega⟩
   have n02:=hm02.nx
   repeat(first|refine uS ?_ |refine aa rfl ?_ |refine ad (by simp(disch:=omega) only[uB,uT,((hb1.no hm2).no hm3).all bY rfl cD];exact rfl) ?_)
   have hlC:aN (cg c)+0≤1000000:=hl
   refine au (z5 ho.wri hw htd3 hc3.h (hZ.mod hm03 (fun _ _ h=>h)) (fun d hd e=>by subst e;exact hd.elim (fun h=>by have:=hc.b _ h;omega) (fun h=>by have:=hZlt _ h;omega)) hc.ok (by show 0+_≤_;omega)) ?_ ?_
   ·rintro r s4 ⟨s4',H4,e,h4,hm4,_⟩
    cases e
    have hm04:Am.Mod No s s4:=hm03.trans hm4 (fun d hd e=>by subst e;omega)
    obtain⟨v4,k4,b4,_⟩:=h4.ex
    obtain⟨a4,c4,x4,e4⟩:=b4.slc
    have hconv:=b4.str (X:=X) cJ aE gT
    have henc:(bE.app (cg c)).len=aN (cg c):=by rw[aY];show 0+_=_;omega
    rw[e4] at k4 hconv
    refine uL ?_
    repeat(first|refine uS ?_ |refine aa rfl ?_ |refine ad (by simp(disch:=omega) only[uB,uT,bN,Dq,Nat.zero_add,k4.ld (i:=0) rfl cJ rfl cP,hconv];exact rfl) ?_)
    refine au (yL ho.sl (t:=bE.app (cg c)) (by omega)) ?_ ?_
    ·rintro r s5 ⟨s5',e,hm5⟩
     cases e
     have hm05:=hm04.trans hm5 (fun _ _ h=>h)
     refine uL ?_
     repeat(first|refine uS ?_ |refine aa rfl ?_ |refine ad (by simp(disch:=omega) only[uB,uT,aK aE];exact rfl) ?_)
     refine uJ [5,22] ?_
     refine ae rfl rfl (fun hc2=>?_) (fun hc2=>?_)
     ·repeat(first|refine uS ?_ |refine aa rfl ?_ |refine ad (by simp(disch:=omega) only[uB,uT,bn];exact rfl) ?_)
      refine ai rfl ?_
      have:¬(iY (oO c)).len≤20000:=by
       simp at hc2
       show ¬(iY (bE.app (cg c))).len≤20000
       omega
      exact⟨s5,by unfold gu;rw[if_pos hmay,if_neg this];rfl,hm05⟩
     ·refine uG ?_
      refine ai rfl ?_
      have:(iY (oO c)).len≤20000:=by
       simp at hc2
       show(iY (bE.app (cg c))).len≤20000
       omega
      exact⟨s5,by unfold gu;rw[if_pos hmay,if_pos this];rfl,hm05⟩
    ·rintro r s' ⟨_,e,_⟩
     cases e
   ·rintro r s' ⟨_,_,e,_⟩
    cases e
 ·rintro r s' ⟨_,e,_⟩
  cases e
end
end Go.Proofs.Ytofohkdkpbigiaa
end
section
namespace Go.Proofs.Ytofohkdkpbigiaa
open Go.Am
set_option maxRecDepth 10000
set_option maxHeartbeats 1000000
set_option linter.unusedSimpArgs false
def dY (n:Nat)(T:Str):Option (Str×Str):=if n≤T.len then some (T.sub 0 n,T.sub n T.len) else none
def qd (n:Int)(T:Str):Option (Str×Str):=if n<0 then none else dY n.toNat T
def rdW (T:Str):Option (Nat×Str):=match dY 8 T with
 |some (a,T')=>some (a.val,T')
 |none=>none
def rdN (T:Str):Option (Int×Str):=match rdW T with
 |some (a,T')=>some (i64 a,T')
 |none=>none
def rdC (T:Str):Option (Nat×Str):=match rdN T with
 |some (n,T')=>if n<0∨(T'.len:Int)<n then none else some (n.toNat,T')
 |none=>none
def rdT (T:Str):Option (Str×Str):=match rdC T with
 |some (n,T')=>dY n T'
 |none=>none
def jh:AV:= .iface 132 (.agg [])
def RdP (s:St)(rb:Nat)(p:Option (AV×Str)):CR→Prop:=fun r=>match p with
 |some (v,T)=>∃s',r= .ret v s'∧Bx s' rb [.str T]∧Am.Mod (fun c=>c=rb) s s'∧T.ok
 |none=>∃s',r= .pan jh s'∧Am.Mod (fun c=>c=rb) s s'
theorem pt {n:Nat}{T a T':Str}(h:dY n T=some (a,T')):a.ok∧T'.ok∧a.len=n∧a.len+T'.len=T.len:=by
 unfold dY at h
 split at h
 ·rename_i hn
  cases h
  exact⟨An _ _ _,An _ _ _,by simp[uI],by simp only[uI];omega⟩
 ·cases h
section
variable {O:bk}
theorem Kc:X.fns.get 66=some Try.f66:=by kernel_rfl
theorem GG:X.fns.get 65=some Try.f65:=by kernel_rfl
theorem J4:X.fns.get 45=some Try.f45:=by kernel_rfl
theorem Fw:X.fns.get 46=some Try.f46:=by kernel_rfl
theorem IF:X.fns.get 47=some Try.f47:=by kernel_rfl
theorem A1 {b off:Nat}:ah X 100 (.ptr (some (b,off))) 0=some (.pure (.ptr (some (b,off)))):=by
 simp only[ah,Ac,bj,List.getElem?_cons_zero,List.getElem?_cons_succ,zg,Nat.add_zero]
theorem Hf {b off:Nat}:ah X 98 (.ptr (some (b,off))) 0=some (.pure (.ptr (some (b,off)))):=by
 simp only[ah,CM,bj,List.getElem?_cons_zero,List.getElem?_cons_succ,aF,Nat.add_zero]
structure RdO (O:bk):Prop where
 take:O 66=none
 word:O 65=none
 num:O 45=none
 count:O 46=none
 text:O 47=none
theorem ow:bf X 132 []=some (.pure (.agg [])):=by
 simp only[bf,zC,AL,cI,bZ,cO,eL,AV.cells]
theorem uW:iz X 132 (.agg [])=some (.old jh):=by
 simp only[iz,zC];rfl
theorem rE:uN jh=some (.pan jh):=rfl
theorem xP (ho:RdO O){s:St}{rb:Nat}{T:Str}(h:Bx s rb [.str T])(hT:T.len≤1000000000){n:Int}:
  Ca X O (.fn 66) [.ptr (some (rb,0)), .int .i64 n] s (RdP s rb ((qd n T).map fun p=>(.str p.1,p.2))):=by
 have hl:=h.ld (X:=X) (i:=0) rfl aE rfl aF
 refine aZ ho.take Kc rfl ?_
 unfold aB aB aB
 cases d1:decide (n<0) with
 |true=>
  have h1:n<0:=by simpa using d1
  repeat(first|refine uS ?_ |refine aa rfl ?_ |refine ad (by simp(disch:=omega) only[uB,uT,d1,aQ];exact rfl) ?_)
  refine uJ [0,1,16] ?_
  refine ae rfl rfl (fun hc=>?_) (fun hc=>?_)
  ·repeat(first|refine uS ?_ |refine aa rfl ?_ |refine ad (by simp(disch:=omega) only[uB,uT,ow,uW,rE];exact rfl) ?_)
   refine bT ?_
   unfold qd
   rw[if_pos h1]
   exact⟨s,rfl,Mod.refl _ _⟩
  ·cases hc
 |false=>
  have h1:¬n<0:=by simpa using d1
  repeat(first|refine uS ?_ |refine aa rfl ?_ |refine ad (by simp(disch:=omega) only[uB,uT,d1,bN,Hf,Nat.zero_add,hl,aK aE];exact rfl) ?_)
  refine uJ [0,1,16] ?_
  refine ae rfl rfl (fun hc=>?_) (fun hc=>?_)
  ·repeat(first|refine uS ?_ |refine aa rfl ?_ |refine ad (by simp(disch:=omega) only[uB,uT,ow,uW,rE];exact rfl) ?_)
   refine bT ?_
   unfold qd dY
   rw[if_neg h1,if_neg (by simp at hc;omega)]
   exact⟨s,rfl,Mod.refl _ _⟩
  ·have h2:n≤(T.len:Int):=by simpa using hc
   obtain⟨s2,e2,k2,hm2,n2⟩:=h.stm (X:=X) (t:=9) (i:=0) (w:= .str (T.sub n.toNat T.len)) rfl aF rfl rfl
   repeat(first|refine uS ?_ |refine aa rfl ?_ |refine ad (by simp(disch:=omega) only[uB,uT,bN,Hf,Nat.zero_add,hl,Gw aE,Jp aE,e2];exact rfl) ?_)
   refine ai rfl ?_
   unfold qd dY
   rw[if_neg h1,if_pos (by omega)]
   exact⟨s2,rfl,k2,hm2,An _ _ _⟩
theorem pT {s:St}{rb:Nat}{p:Option (AV×Str)}{v:AV}{s':St}(h:RdP s rb p (.ret v s')):∃T,p=some (v,T)∧Bx s' rb [.str T]∧Am.Mod (fun c=>c=rb) s s'∧T.ok:=by
 match p,h with
 |some (u,T),⟨s2,e,h1,h2,h3⟩=>cases e;exact⟨T,rfl,h1,h2,h3⟩
 |none,⟨s2,e,_⟩=>cases e
theorem pN {s:St}{rb:Nat}{p:Option (AV×Str)}{v:AV}{s':St}(h:RdP s rb p (.pan v s')):p=none∧v=jh∧Am.Mod (fun c=>c=rb) s s':=by
 match p,h with
 |some (u,T),⟨s2,e,_⟩=>cases e
 |none,⟨s2,e,h1⟩=>cases e;exact⟨rfl,rfl,h1⟩
theorem qW (ho:RdO O){s:St}{rb:Nat}{T:Str}(h:Bx s rb [.str T])(hT:T.len≤1000000000):
  Ca X O (.fn 65) [.ptr (some (rb,0))] s (RdP s rb ((rdW T).map fun p=>(.int .u64 (p.1:Int),p.2))):=by
 refine aZ ho.word GG rfl ?_
 unfold aB aB
 repeat(first|refine uS ?_ |refine aa rfl ?_ |refine ad (by simp(disch:=omega) only[uB,uT,bN,A1,Nat.zero_add];exact rfl) ?_)
 refine au (xP ho h hT (n:=8)) ?_ ?_
 ·intro v s1 hr
  obtain⟨T',e,h1,hm1,hok⟩:=pT hr
  have hz:qd 8 T=dY 8 T:=rfl
  rw[hz] at e
  cases ht:dY 8 T with
  |none=>rw[ht] at e;cases e
  |some p=>
   obtain⟨w,T''⟩:=p
   rw[ht] at e
   simp only[Option.map_some,Option.some.injEq,Prod.mk.injEq] at e
   obtain⟨rfl,rfl⟩:=e
   obtain⟨hw,_,hwl,_⟩:=pt ht
   have hrd:rdW T=some (w.val,T''):=by unfold rdW;rw[ht]
   rw[hrd]
   have hbl:(bl w).length=8:=by rw[z6,hwl]
   refine bC (by simp(disch:=omega) only[uB,uT,GQ aE cJ gT (show w.len≤1000000 by omega)];exact rfl) ?_
   refine uH ?_
   refine eK fun s2 hn2 hm2 hb2=>?_
   rw[hwl]
   have hvl:∀i,i≤8→(gP ((bl w).take i)).val<256^i:=fun i hi=>by
    have:=zI (l:=(bl w).take i) (fun b hb=>HQ w b (List.mem_of_mem_take hb))
    unfold Str.ok at this
    rw[jF,List.length_take,hbl,Nat.min_eq_left hi] at this
    exact this
   have hm02:Am.Mod (fun c=>c=rb) s s2:=hm1.trans hm2 (fun _ _ e=>e.elim)
   let I:Nat→Sl→St→Prop:=fun i L s'=>s2=s'∧i≤8∧L=[(3, .int .u64 ((gP ((bl w).take i)).val:Int)),(10, .slc (some (s1.nx,0,1)) 8 8 false),(11, .int .i64 ((8:Nat):Int)),(12, .int .i64 (i:Int))]
   refine WL.less (M:=[(3, .int .u64 ((0:Nat):Int)),(10, .slc (some (s1.nx,0,1)) 8 8 false),(11, .int .i64 ((8:Nat):Int)),(12, .int .i64 ((0:Nat):Int))]) ?_ rfl
   refine bm I (fun i=>8- i) ?_ 8 0 _ s2 (by simp) ⟨rfl,Nat.zero_le _,rfl⟩
   rintro i L _ ⟨rfl,hi,rfl⟩
   refine uG ?_
   refine uJ [3,10,11,12,13] ?_
   refine ae rfl rfl (fun hc2=>?_) (fun hc2=>?_)
   ·simp at hc2
    obtain⟨b,hb⟩:∃b,(bl w)[i]? =some b:=⟨_,List.getElem?_eq_getElem (by omega)⟩
    have hblt:=HQ w b (List.mem_of_getElem? hb)
    have hvi:=hvl i hi
    have hpw:(256:Nat)^i≤256^7:=Nat.pow_le_pow_right (by decide) (by omega)
    have h7:(256:Nat)^7=72057594037927936:=by decide
    have hlb:aO X 5 (.ptr (some (s1.nx,i))) s2=some (.old (bA b)):=hb2.ld (i:=i) (by rw[List.getElem?_map,hb];rfl) gT rfl qw
    have hsn:(gP ((bl w).take (i+1))).val=(gP ((bl w).take i)).val*256+b:=by
     rw[List.take_add_one,hb]
     show(gP ((bl w).take i++[b])).val=_
     rw[FK];rfl
    generalize hv:(gP ((bl w).take i)).val=v at*
    repeat(first|refine uS ?_ |refine aa rfl ?_ |refine ad (by simp(disch:=omega) only[uB,uT,aT cJ qw,Int.toNat_natCast,Nat.mul_one,Nat.zero_add,hlb,Nd (show v<72057594037927936 by omega),M4 gT eU hblt,OY (show v<72057594037927936 by omega) hblt];exact rfl) ?_)
    exact aM (i+1) [(3, .int .u64 ((v*256+b:Nat):Int)),(10, .slc (some (s1.nx,0,1)) 8 8 false),(11, .int .i64 ((8:Nat):Int)),(12, .int .i64 ((i+1:Nat):Int))] ⟨rfl,by omega,by rw[hsn]⟩ (by show 8- (i+1)<8- i;omega) (by simp[aI,aD])
   ·simp at hc2
    have:i=8:=by omega
    subst this
    refine uG ?_
    refine ai rfl ?_
    rw[List.take_of_length_le (by omega),zL hw]
    exact⟨s2,rfl,h1.no hm2,hm02,hok⟩
 ·intro v s1 hr
  obtain⟨e,rfl,hm⟩:=pN hr
  have hz:qd 8 T=dY 8 T:=rfl
  rw[hz] at e
  have hrd:rdW T=none:=by
   unfold rdW
   cases ht:dY 8 T with
   |none=>rfl
   |some p=>rw[ht] at e;cases e
  rw[hrd]
  refine uH ?_
  refine bT ?_
  exact⟨s1,rfl,hm⟩
theorem eT (ho:RdO O){s:St}{rb:Nat}{T:Str}(h:Bx s rb [.str T])(hT:T.len≤1000000000):
  Ca X O (.fn 45) [.ptr (some (rb,0))] s (RdP s rb ((rdN T).map fun p=>(.int .i64 p.1,p.2))):=by
 refine aZ ho.num J4 rfl ?_
 unfold aB aB
 refine uG ?_
 refine au (qW ho h hT) ?_ ?_
 ·intro v s1 hr
  obtain⟨T',e,h1,hm1,hok⟩:=pT hr
  cases hw:rdW T with
  |none=>rw[hw] at e;cases e
  |some p=>
   obtain⟨w,T''⟩:=p
   rw[hw] at e
   simp only[Option.map_some,Option.some.injEq,Prod.mk.injEq] at e
   obtain⟨rfl,rfl⟩:=e
   have hrd:rdN T=some (i64 w,T''):=by unfold rdN;rw[hw]
   rw[hrd]
   refine bC (by simp(disch:=omega) only[uB,uT,zd eU aJ];exact rfl) ?_
   refine uG ?_
   refine ai rfl ?_
   exact⟨s1,rfl,h1,hm1,hok⟩
 ·intro v s1 hr
  obtain⟨e,rfl,hm⟩:=pN hr
  have hrd:rdN T=none:=by
   unfold rdN
   cases hw:rdW T with
   |none=>rfl
   |some p=>rw[hw] at e;cases e
  rw[hrd]
  refine uH ?_
  refine bT ?_
  exact⟨s1,rfl,hm⟩
theorem cE {T T':Str}{n:Int}(h:rdN T=some (n,T')): -9223372036854775808≤n∧n≤9223372036854775807∧T'.len+8=T.len:=by
 unfold rdN rdW at h
 cases ht:dY 8 T with
 |none=>rw[ht] at h;cases h
 |some p=>
  obtain⟨a,b⟩:=p
  rw[ht] at h
  simp only[Option.some.injEq,Prod.mk.injEq] at h
  obtain⟨rfl,rfl⟩:=h
  obtain⟨_,_,h1,h2⟩:=pt ht
  have:=xO a.val
  exact⟨this.1,this.2,by omega⟩
theorem iv (ho:RdO O){s:St}{rb:Nat}{T:Str}(h:Bx s rb [.str T])(hT:T.len≤1000000000):
  Ca X O (.fn 46) [.ptr (some (rb,0))] s (RdP s rb ((rdC T).map fun p=>(.int .i64 (p.1:Int),p.2))):=by
 refine aZ ho.count Fw rfl ?_
 unfold aB aB
 refine uG ?_
 refine au (eT ho h hT) ?_ ?_
 ·intro v s1 hr
  obtain⟨T',e,h1,hm1,hok⟩:=pT hr
  cases hw:rdN T with
  |none=>rw[hw] at e;cases e
  |some p=>
   obtain⟨n,T''⟩:=p
   rw[hw] at e
   simp only[Option.map_some,Option.some.injEq,Prod.mk.injEq] at e
   obtain⟨rfl,rfl⟩:=e
   have hl1:=h1.ld (X:=X) (i:=0) rfl aE rfl aF
   refine uL ?_
   cases d1:decide (n<0) with
   |true=>
    have hn:n<0:=by simpa using d1
    have hrd:rdC T=none:=by unfold rdC;rw[hw];simp only;rw[if_pos (.inl hn)]
    rw[hrd]
    repeat(first|refine uS ?_ |refine aa rfl ?_ |refine ad (by simp(disch:=omega) only[uB,uT,d1,aQ];exact rfl) ?_)
    refine uJ [0,3,17] ?_
    refine ae rfl rfl (fun hc=>?_) (fun hc=>?_)
    ·repeat(first|refine uS ?_ |refine aa rfl ?_ |refine ad (by simp(disch:=omega) only[uB,uT,ow,uW,rE];exact rfl) ?_)
     refine bT ?_
     exact⟨s1,rfl,hm1⟩
    ·cases hc
   |false=>
    have hn:¬n<0:=by simpa using d1
    repeat(first|refine uS ?_ |refine aa rfl ?_ |refine ad (by simp(disch:=omega) only[uB,uT,d1,bN,A1,Hf,Nat.zero_add,hl1,aK aE];exact rfl) ?_)
    refine uJ [0,3,17] ?_
    refine ae rfl rfl (fun hc=>?_) (fun hc=>?_)
    ·have hrd:rdC T=none:=by unfold rdC;rw[hw];simp only;rw[if_pos (.inr (by simpa using hc))]
     rw[hrd]
     repeat(first|refine uS ?_ |refine aa rfl ?_ |refine ad (by simp(disch:=omega) only[uB,uT,ow,uW,rE];exact rfl) ?_)
     refine bT ?_
     exact⟨s1,rfl,hm1⟩
    ·have hle:¬(T''.len:Int)<n:=by simp at hc;omega
     have hrd:rdC T=some (n.toNat,T''):=by unfold rdC;rw[hw];simp only;rw[if_neg (by rintro(h|h);exact hn h;exact hle h)]
     rw[hrd]
     refine uG ?_
     refine ai rfl ?_
     have e:((n.toNat:Nat):Int)=n:=by omega
     exact⟨s1,by simp only[e];rfl,h1,hm1,hok⟩
 ·intro v s1 hr
  obtain⟨e,rfl,hm⟩:=pN hr
  have hrd:rdC T=none:=by
   unfold rdC
   cases hw:rdN T with
   |none=>rfl
   |some p=>rw[hw] at e;cases e
  rw[hrd]
  refine uH ?_
  refine bT ?_
  exact⟨s1,rfl,hm⟩
theorem mW {T T':Str}{n:Nat}(h:rdC T=some (n,T')):n≤T'.len∧T'.len+8=T.len:=by
 unfold rdC at h
 cases hw:rdN T with
 |none=>rw[hw] at h;cases h
 |some p=>
  obtain⟨a,b⟩:=p
  rw[hw] at h
  simp only at h
  split at h
  ·cases h
  ·rename_i hn
   simp only[Option.some.injEq,Prod.mk.injEq] at h
   obtain⟨rfl,rfl⟩:=h
   exact⟨by omega,(cE hw).2.2⟩
theorem ig (ho:RdO O){s:St}{rb:Nat}{T:Str}(h:Bx s rb [.str T])(hT:T.len≤1000000000):
  Ca X O (.fn 47) [.ptr (some (rb,0))] s (RdP s rb ((rdT T).map fun p=>(.str p.1,p.2))):=by
 refine aZ ho.text IF rfl ?_
 unfold aB aB
 refine uG ?_
 refine aV [(0,none),(1,none),(2,none),(3,none),(4,some [false,true,true,true]),(5,some [false,true,true]),(6,some [false,false])] (by kernel_rfl) (by kernel_rfl) (by simp(disch:=omega) only[uB,uT,Nat.reduceEqDiff,↓reduceIte,uD,mask,aC,aA,bN,A1,Nat.zero_add];exact rfl) ?_
 refine cH (iv ho h hT) ?_ ?_
 ·intro v s1 hr
  obtain⟨T',e,h1,hm1,hok⟩:=pT hr
  cases hw:rdC T with
  |none=>rw[hw] at e;cases e
  |some p=>
   obtain⟨n,T''⟩:=p
   rw[hw] at e
   simp only[Option.map_some,Option.some.injEq,Prod.mk.injEq] at e
   obtain⟨rfl,rfl⟩:=e
   have hlt:=mW hw
   refine⟨_,(by simp(disch:=omega) only[uB,uT,Nat.reduceEqDiff,↓reduceIte,uE,aC,aA,bN,A1,Nat.zero_add];exact rfl),?_⟩
   refine cH (xP ho h1 (by omega) (n:=(n:Int))) ?_ ?_
   ·intro v s2 hr2
    obtain⟨T3,e3,h3,hm3,hok3⟩:=pT hr2
    have hz:qd (n:Int) T''=dY n T'':=by unfold qd;rw[if_neg (by omega),Int.toNat_natCast]
    rw[hz] at e3
    have hrd:rdT T=dY n T'':=by unfold rdT;rw[hw]
    rw[hrd]
    cases ht:dY n T'' with
    |none=>rw[ht] at e3;cases e3
    |some p=>
     obtain⟨w,T4⟩:=p
     rw[ht] at e3
     simp only[Option.map_some,Option.some.injEq,Prod.mk.injEq] at e3
     obtain⟨rfl,rfl⟩:=e3
     refine⟨_,(by simp(disch:=omega) only[uB,uT,Nat.reduceEqDiff,↓reduceIte,uE,aC,aA,bN,A1,Nat.zero_add];exact rfl),?_⟩
     refine uH ?_
     refine ai rfl ?_
     exact⟨s2,rfl,h3,hm1.trans hm3 (fun _ _ e=>e),hok3⟩
   ·intro v s2 hr2
    obtain⟨e3,rfl,hm3⟩:=pN hr2
    have hz:qd (n:Int) T''=dY n T'':=by unfold qd;rw[if_neg (by omega),Int.toNat_natCast]
    rw[hz] at e3
    have hrd:rdT T=none:=by
     unfold rdT;rw[hw];simp only
     cases ht:dY n T'' with
     |none=>rfl
     |some p=>rw[ht] at e3;cases e3
    rw[hrd]
    refine uH ?_
    refine bT ?_
    exact⟨s2,rfl,hm1.trans hm3 (fun _ _ e=>e)⟩
 ·intro v s1 hr
  obtain⟨e,rfl,hm⟩:=pN hr
  have hrd:rdT T=none:=by
   unfold rdT
   cases hw:rdC T with
   |none=>rfl
   |some p=>rw[hw] at e;cases e
  rw[hrd]
  refine uH ?_
  refine bT ?_
  exact⟨s1,rfl,hm⟩
theorem EV {n:Nat}{T T' a:Str}(h:dY n T=some (a,T')):a.len=n∧T'.len+n=T.len:=by
 obtain⟨_,_,h1,h2⟩:=pt h
 exact⟨h1,by omega⟩
theorem fh {T T' a:Str}(h:rdT T=some (a,T')):T'.len+(8+a.len)=T.len∧a.ok:=by
 unfold rdT at h
 cases hw:rdC T with
 |none=>rw[hw] at h;cases h
 |some p=>
  obtain⟨n,b⟩:=p
  rw[hw] at h
  have h1:=mW hw
  have h2:=EV h
  have h3:=pt h
  exact⟨by omega,h3.1⟩
end
end Go.Proofs.Ytofohkdkpbigiaa
end
section
namespace Go.Proofs.Ytofohkdkpbigiaa
open Go.Am
set_option maxRecDepth 10000
set_option maxHeartbeats 1000000
set_option linter.unusedSimpArgs false
def rdM {α:Type}(f:Str→Option (α×Str)):Nat→Str→Option (List α×Str)
 |0,T=>some ([],T)
 |n+1,T=>match f T with
  |some (a,T')=>match rdM f n T' with
   |some (l,T'')=>some (a::l,T'')
   |none=>none
  |none=>none
def np {α:Type}(acc:List α):Option (List α×Str)→Option (List α×Str)
 |some (l,T)=>some (acc++l,T)
 |none=>none
theorem jM {α:Type}(o:Option (List α×Str)):np [] o=o:=by cases o<;>rfl
theorem nv {α:Type}{f:Str→Option (α×Str)}{acc:List α}{k:Nat}{T T':Str}{a:α}(h:f T=some (a,T')):np acc (rdM f (k+1) T)=np (acc++[a]) (rdM f k T'):=by
 simp only[rdM,h]
 cases rdM f k T' with
 |none=>rfl
 |some p=>simp[np]
theorem lh {α:Type}{f:Str→Option (α×Str)}{acc:List α}{k:Nat}{T:Str}(h:f T=none):np acc (rdM f (k+1) T)=none:=by
 simp only[rdM,h];rfl
def m5 (T:Str):Option (Vl×Str):=match rdN T with
 |some (k,T1)=>match rdW T1 with
  |some (n,T2)=>match rdW T2 with
   |some (f,T3)=>match rdT T3 with
    |some (s,T4)=>some (⟨k,i64 n,f,s⟩,T4)
    |none=>none
   |none=>none
  |none=>none
 |none=>none
def kh (T:Str):Option (List Vl×Str):=match rdC T with
 |some (n,T1)=>rdM m5 n T1
 |none=>none
def jU (T:Str):Option (List (List Vl)×Str):=match rdC T with
 |some (n,T1)=>rdM kh n T1
 |none=>none
theorem y7 {T T':Str}{n:Nat}(h:rdW T=some (n,T')):n<18446744073709551616∧T'.len+8=T.len:=by
 unfold rdW at h
 cases ht:dY 8 T with
 |none=>rw[ht] at h;cases h
 |some p=>
  obtain⟨a,b⟩:=p
  rw[ht] at h
  simp only[Option.some.injEq,Prod.mk.injEq] at h
  obtain⟨rfl,rfl⟩:=h
  obtain⟨h0,_,h1,h2⟩:=pt ht
  unfold Str.ok at h0
  rw[h1] at h0
  have:(256:Nat)^8=18446744073709551616:=by decide
  exact⟨by omega,by omega⟩
theorem Ks {T T':Str}{v:Vl}(h:m5 T=some (v,T')):sV v∧T'.len+aN (gR v)=T.len:=by
 unfold m5 at h
 cases h1:rdN T with
 |none=>rw[h1] at h;cases h
 |some p=>
  obtain⟨k,T1⟩:=p
  rw[h1] at h
  simp only at h
  cases h2:rdW T1 with
  |none=>rw[h2] at h;cases h
  |some p=>
   obtain⟨n,T2⟩:=p
   rw[h2] at h
   simp only at h
   cases h3:rdW T2 with
   |none=>rw[h3] at h;cases h
   |some p=>
    obtain⟨f,T3⟩:=p
    rw[h3] at h
    simp only at h
    cases h4:rdT T3 with
    |none=>rw[h4] at h;cases h
    |some p=>
     obtain⟨w,T4⟩:=p
     rw[h4] at h
     simp only[Option.some.injEq,Prod.mk.injEq] at h
     obtain⟨rfl,rfl⟩:=h
     have a1:=cE h1
     have a2:=y7 h2
     have a3:=y7 h3
     have a4:=fh h4
     have a5:=xO n
     refine⟨⟨a4.2,a3.1,a5.1,a5.2,a1.1,a1.2.1⟩,?_⟩
     rw[nT]
     simp only
     omega
theorem Ah {α:Type}{f:Str→Option (α×Str)}{P:α→Prop}{g:α→List Str}(hf:∀T T' a,f T=some (a,T')→P a∧T'.len+aN (g a)=T.len):∀ {n:Nat} {T T':Str} {l:List α},rdM f n T=some (l,T')→(∀a∈l,P a)∧T'.len+aN (l.map g).flatten=T.len∧l.length=n
 |0,T,T',l,h=>by
  simp only[rdM,Option.some.injEq,Prod.mk.injEq] at h
  obtain⟨rfl,rfl⟩:=h
  exact⟨fun a ha=>(by cases ha),rfl,rfl⟩
 |n+1,T,T',l,h=>by
  simp only[rdM] at h
  cases h1:f T with
  |none=>rw[h1] at h;cases h
  |some p=>
   obtain⟨a,T1⟩:=p
   rw[h1] at h
   simp only at h
   cases h2:rdM f n T1 with
   |none=>rw[h2] at h;cases h
   |some p=>
    obtain⟨m,T2⟩:=p
    rw[h2] at h
    simp only[Option.some.injEq,Prod.mk.injEq] at h
    obtain⟨rfl,rfl⟩:=h
    obtain⟨k1,k2,k3⟩:=Ah hf h2
    obtain⟨j1,j2⟩:=hf _ _ _ h1
    refine⟨fun b hb=>?_,?_,by simp[k3]⟩
    ·rcases List.mem_cons.mp hb with rfl|hb
     ·exact j1
     ·exact k1 b hb
    ·rw[List.map_cons,List.flatten_cons,az];omega
theorem HZ {T T':Str}{r:List Vl}(h:kh T=some (r,T')):(∀v∈r,sV v)∧T'.len+aN (cU r)=T.len:=by
 unfold kh at h
 cases h1:rdC T with
 |none=>rw[h1] at h;cases h
 |some p=>
  obtain⟨n,T1⟩:=p
  rw[h1] at h
  have a1:=mW h1
  obtain⟨k1,k2,_⟩:=Ah (P:=sV) (g:=gR) (fun T T' a h=>Ks h) h
  refine⟨k1,?_⟩
  rw[cU,bO]
  show _+(8+_)=_
  omega
theorem FA {T T':Str}{r:List (List Vl)}(h:jU T=some (r,T')):(∀l∈r,∀v∈l,sV v)∧T'.len+aN (dJ r)=T.len:=by
 unfold jU at h
 cases h1:rdC T with
 |none=>rw[h1] at h;cases h
 |some p=>
  obtain⟨n,T1⟩:=p
  rw[h1] at h
  have a1:=mW h1
  obtain⟨k1,k2,_⟩:=Ah (P:=fun l=>∀v∈l,sV v) (g:=cU) (fun T T' a h=>HZ h) h
  refine⟨k1,?_⟩
  rw[dJ,bO]
  show _+(8+_)=_
  omega
end Go.Proofs.Ytofohkdkpbigiaa
end
