/-
  A part of the texts.
-/
import Derived.Test.YtofohkdkpbigiaaQam
section
namespace Go.Proofs.Ytofohkdkpbigiaa
open Go.Am
set_option maxRecDepth 10000
set_option maxHeartbeats 1000000
set_option linter.unusedSimpArgs false
def inK (lo hi:Str)(q:Str×Str):Bool:= !q.1.lt lo&& (hi.beq ⟨0,0⟩||q.1.lt hi)
theorem Pgs.from {s:St}{F:Nat→Prop}{b off n c:Nat}{x:Bool}{ps:List Prs}(h:Pgs s F (.slc (some (b,off,1)) n c x) ps)(k c':Nat)(x':Bool):Pgs s F (.slc (some (b,off+k*1,1)) (n- k) c' x') (ps.drop k):=by
 obtain⟨vs,h1,h2,h3,h4⟩:=h.ex
 refine⟨vs.drop k,by simp[h1],?_,fun b hb=>h3 b (by cases hb;rfl),fun i u p hu hp=>?_⟩
 ·rw[List.map_drop];exact h2.from k c' x'
 ·rw[List.getElem?_drop] at hu hp;exact h4 _ u p hu hp
theorem Pgs.Qg {F:Nat→Prop}{s:St}{v:AV}{ps:List Prs}(h:Pgs s F v ps)(h0:ps≠[]):∃b off c x,v= .slc (some (b,off,1)) ps.length c x:=by
 obtain⟨p,hp⟩:∃p,ps[0]? =some p:=⟨_,List.getElem?_eq_getElem (List.length_pos_iff.mpr h0)⟩
 obtain⟨b,off,_,_,c,x,_,e,_⟩:=h.at hp
 exact⟨b,off,c,x,e⟩
theorem N5 {X:Ctx}{t elem es:Nat}{s:St}{b off n c:Nat}{x:Bool}{k:IntKind}{l:Nat}(hu:X.und t=some (.slice elem))(hs:X.size elem=some es)(hn:l≤n)(hc:l<c):cP X s t (.slc (some (b,off,es)) n c x) (some (.int k (l:Int))) none none=some (.slc (some (b,off+l*es,es)) (n- l) (c- l) x):=by
 rcases Nat.eq_zero_or_pos l with e|e
 ·subst e
  have h1:=mf (k:=k) (i:=((0:Nat):Int)) (y:=n) (by omega) (by omega)
  simp only[cP,hu,qO,oQ,tZ,ob,uh,h1,hs,mW,AP,show Nat.beq es es=true from Nat.beq_refl es,Int.toNat_natCast,show Nat.beq 0 0=true from rfl,Nat.zero_mul,Nat.add_zero,Nat.sub_zero]
 ·have:=y7 (X:=X) (s:=s) (b:=b) (off:=off) (n:=n) (c:=c) (x:=x) (k:=k) (l:=(l:Int)) hu hs (by omega) (by omega) (by omega)
  rwa [Int.toNat_natCast] at this
section
variable {O:bj}
theorem AD:X.fns.get 29=some Try.f29:=by kernel_rfl
theorem qt (ho:Hx O)(hs:O 29=none){s:St}{F:Nat→Prop}{v:AV}{ps:List Prs}(h:Pgs s F v ps)(hF:∀b,F b→b<s.nx)(hcap:Cap v)(hr:Rt ps)(hl:ps.flatten.length≤100000)(hl2:ps.length≤100000){lo hi:Str}{n:Nat}(hn:ps.flatten.length≤n):
  Ca X O (.fn 29) [v, .str lo, .str hi, .int .i64 (n:Int)] s fun z=>∃u s',z= .ret u s'∧Mod No s s'∧Acc s' u 2 ((ps.flatten.filter (inK lo hi)).map pr)∧∀b,blk u=some b→s.nx≤b:=by
 obtain⟨a,c,x,rfl⟩:=h.slc
 refine bb hs AD rfl ?_
 unfold aD aD aD aD aD
 refine uG ?_
 refine aj (wo ho.right h hr (by omega)) ?_ ?_
 ·rintro z s1 ⟨s1',e,hm1⟩
  cases e
  by_cases hp0:ps=[]
  ·subst hp0
   have d0:decide (((([]:List Prs).length:Nat):Int)=0)=true:=by simp
   refine bD (by simp(disch:=omega) only[uB,uT,Bool.not_true,d0];exact rfl) ?_
   refine uH ?_
   refine uJ [0,1,2,3,21] ?_
   refine ae rfl rfl (fun hc=>?_) (fun hc=>?_)
   ·refine uG ?_
    refine ai rfl ?_
    exact⟨_,s1,rfl,hm1,Acc.nil,fun b hb=>by cases hb⟩
   ·cases hc
  ·have d0:decide (((ps.length:Nat):Int)=0)=false:=by simpa using hp0
   refine bD (by simp(disch:=omega) only[uB,uT,Bool.not_true,d0];exact rfl) ?_
   refine uH ?_
   refine uJ [0,1,2,3,21] ?_
   refine ae rfl rfl (fun hc=>?_) (fun hc=>?_)
   ·cases hc
   ·have h1:=h.no hm1
    obtain⟨b,off,c',x',e⟩:=h1.Qg hp0
    cases e
    repeat(first|with_reducible refine B5 ?_ |(first|refine uS ?_ |refine aa rfl ?_)|refine ad (by simp(disch:=omega) only[uB,uT];exact rfl) ?_)
    refine aj (EC ho.of ho.of1 ho.search h1 hr.one hp0 (by omega)) ?_ ?_
    ·rintro z s2 ⟨j,s2',e,hm2,hj⟩
     cases e
     have h2:=h1.no hm2
     have hc1:ps.length≤c:=hcap _ _ _ _ rfl
     have hp1:0<ps.length:=List.length_pos_iff.mpr hp0
     have hjl:j- 1<ps.length:=by have:=hj.1;omega
     have hq:=h2.from (j- 1) (c- (j- 1)) x
     have hqs:=HI hr.srt (j- 1)
     have hpre:ps.flatten.filter (inK lo hi)=(ps.drop (j- 1)).flatten.filter (inK lo hi):=by
      rw[yD ps (j- 1),List.filter_append,filter_none (l:=(ps.take (j- 1)).flatten),List.nil_append]
      intro q hq
      have:=JP hr hj q hq
      unfold inK;rw[this];rfl
     have hqf:(ps.drop (j- 1)).flatten.length≤ps.flatten.length:=by rw[yD ps (j- 1)];simp
     have hql:(ps.drop (j- 1)).length=ps.length- (j- 1):=List.length_drop
     rw[←hql] at hq
     refine bD (by simp(disch:=omega) only[uB,uT,N5 bV bM,←hql];exact rfl) ?_
     refine uH ?_
     generalize ps.drop (j- 1)=qs at hq hqs hpre hqf hql
     generalize off+(j- 1)*1=off' at hq
     generalize hcx:c- (j- 1)=cx at hq
     let P:=inK lo hi
     let I:Nat×AV→Sl→St→Prop:=fun y L s'=>Am.Mod No s s'∧y.1≤qs.length∧Acc s' y.2 2 (((qs.take y.1).flatten.filter P).map pr)∧(∀b,blk y.2=some b→s.nx≤b)∧Pgs s' F (.slc (some (b,off',1)) qs.length cx x) qs∧L=[(1, .str lo),(2, .str hi),(3, .int .i64 (n:Int)),(9,y.2),(26, .slc (some (b,off',1)) qs.length cx x),(27, .int .i64 (qs.length:Int)),(28, .int .i64 (y.1:Int))]
     refine WL.less (M:=[(1, .str lo),(2, .str hi),(3, .int .i64 (n:Int)),(9, .slc none 0 0 true),(26, .slc (some (b,off',1)) qs.length cx x),(27, .int .i64 (qs.length:Int)),(28, .int .i64 ((0:Nat):Int))]) ?_ (by simp[aI,az,hql])
     have hm12:Am.Mod No s s2:=hm1.trans hm2 (fun _ _ h=>h)
     refine aV I (fun y=>qs.length- y.1) ?_ qs.length (0, .slc none 0 0 true) _ s2 (by simp) ⟨hm12,Nat.zero_le _,Acc.nil,fun b hb=>(by cases hb),hq,rfl⟩
     rintro⟨i,l⟩ L s3 ⟨hm3,hil,hacc,hbl,hq3,rfl⟩
     simp only at hil hacc hbl ⊢
     refine uG ?_
     refine uJ [1,2,3,9,26,27,28,29] ?_
     refine ae rfl rfl (fun hc2=>?_) (fun hc2=>?_)
     ·simp at hc2
      have hpi:=List.getElem?_eq_getElem hc2
      obtain⟨b5,off5,t5,n5,c5,x5,u,e,k1,k2,k3,k4⟩:=hq3.at hpi
      cases e
      obtain⟨a2,c2,x2,rfl,_⟩:=k3.ex
      rw[List.length_map] at k2 k3
      repeat(first|refine uS ?_ |refine aa rfl ?_ |refine ad (by simp(disch:=omega) only[uB,uT,aQ bV bM,ah bE rfl bM k1 k2,Int.toNat_natCast,Nat.mul_one];exact rfl) ?_)
      let J:Nat×AV→Sl→St→Prop:=fun y L s'=>Am.Mod No s s'∧y.1≤qs[i].length∧Acc s' y.2 2 ((((qs.take i).flatten++qs[i].take y.1).filter P).map pr)∧(∀b,blk y.2=some b→s.nx≤b)∧Pgs s' F (.slc (some (b,off',1)) qs.length cx x) qs∧Sli s' (.slc a2 qs[i].length c2 x2) 2 (qs[i].map pr)∧L=[(1, .str lo),(2, .str hi),(3, .int .i64 (n:Int)),(9,y.2),(26, .slc (some (b,off',1)) qs.length cx x),(27, .int .i64 (qs.length:Int)),(28, .int .i64 (i:Int)),(32, .slc a2 qs[i].length c2 x2),(33, .int .i64 (qs[i].length:Int)),(34, .int .i64 (y.1:Int))]
      refine WL.less (M:=[(1, .str lo),(2, .str hi),(3, .int .i64 (n:Int)),(9,l),(26, .slc (some (b,off',1)) qs.length cx x),(27, .int .i64 (qs.length:Int)),(28, .int .i64 (i:Int)),(32, .slc a2 qs[i].length c2 x2),(33, .int .i64 (qs[i].length:Int)),(34, .int .i64 ((0:Nat):Int))]) ?_ (by simp[aI,az])
      refine aV J (fun y=>qs[i].length- y.1) ?_ qs[i].length (0,l) _ s3 (by simp) ⟨hm3,Nat.zero_le _,by simpa using hacc,hbl,hq3,k3,rfl⟩
      rintro⟨j,l⟩ L s4 ⟨hm4,hj,hacc,hbl,hq4,hk4,rfl⟩
      simp only at hj hacc hbl ⊢
      refine uG ?_
      refine uJ [1,2,3,9,26,27,28,32,33,34,35] ?_
      refine ae rfl rfl (fun hc3=>?_) (fun hc3=>?_)
      ·simp at hc3
       have hx:=List.getElem?_eq_getElem hc3
       obtain⟨b6,off6,t6,n6,c6,x6,e6,l1,l2,l3,l4⟩:=ll hk4 hx
       cases e6
       obtain⟨cc,hcc,gc⟩:=ej (cs:=[.str (qs[i][j]).1, .str (qs[i][j]).2]) (zs:=[.str ⟨0,0⟩, .str ⟨0,0⟩]) rfl
       have g0:=gc 0 _ rfl
       have g1:=gc 1 _ rfl
       (repeat(first|refine uS ?_ |refine aa rfl ?_));refine ad (by simp(disch:=omega) only[uB,uT,aQ bE bW,cE nS rfl bW l1 l4,Int.toNat_natCast,bQ lC rfl,AV.cells,pr,rh hcc];exact rfl) ?_;(repeat(first|refine uS ?_ |refine aa rfl ?_))
       refine WL.st (fun s'=>Am.Mod No s4 s'∧s4.nx<s'.nx∧s'.h.get s4.nx=some (.cells cc 2)) ⟨((Mod.refl _ s4).new _).put _ (.inl (Nat.le_refl _)) (Nat.lt_succ_self _),Nat.lt_succ_self _,bm⟩ ?_
       rintro s5 ⟨hm5,hn5,g5⟩
       have hm45:Am.Mod No s s5:=hm4.trans hm5 (fun _ _ h=>h)
       have hacc5:=hacc.mod hm5 (fun _ _ h=>h)
       have hq5:=hq4.no hm5
       have hk5:=hk4.mod hm5 (fun _ _ h=>h)
       have hsn:=BA (P:=P) (l:=(qs.take i).flatten) hc3
       have hflt:qs.flatten=((qs.take i).flatten++qs[i].take j)++(qs[i].drop j++(qs.drop (i+1)).flatten):=by
        rw[iH hpi,List.append_assoc,←List.append_assoc (qs[i].take j),List.take_append_drop]
       have hlen5:((qs.take i).flatten++qs[i].take j).length<qs.flatten.length:=by
        rw[hflt];simp only[List.length_append,List.length_drop,List.length_take];omega
       have hj6:j<100000:=by have:=hlen5;simp only[List.length_append,List.length_take] at this;omega
       have hfl:(((qs.take i).flatten++qs[i].take j).filter P).length≤((qs.take i).flatten++qs[i].take j).length:=List.length_filter_le _ _
       generalize hF0:((qs.take i).flatten++qs[i].take j).filter P=fl at hacc hacc5 hsn hfl
       obtain⟨al,cl,xl,rfl,_⟩:=hacc5.sli.ex
       have d1:decide ((n:Int)≤(((fl.map pr).length:Nat):Int))=false:=by simp;omega
       have hx94:ldL cc 0 2=some [.str (qs[i][j]).1, .str (qs[i][j]).2]:=aR.mpr ⟨rfl,fun m u hu=>by rw[Nat.zero_add];exact gc m u hu⟩
       (repeat(first|refine uS ?_ |refine aa rfl ?_));refine ad (by simp(disch:=omega) only[uB,uT,d1];exact rfl) ?_;(repeat(first|refine uS ?_ |refine aa rfl ?_))
       refine uJ [1,2,3,9,13,26,27,28,32,33,34,38] ?_
       refine ae rfl rfl (fun hc4=>?_) (fun hc4=>?_)
       ·cases hc4
       ·cases hst:(!hi.beq ⟨0,0⟩&& !(qs[i][j]).1.lt hi) with
        |true=>
         simp only[Bool.and_eq_true,Bool.not_eq_true'] at hst
         (repeat(first|refine uS ?_ |refine aa rfl ?_));refine ad (by simp(disch:=omega) only[uB,uT,ng,hst.1,hst.2,Bool.not_false,eu,ah aE rfl aF g5 g0];exact rfl) ?_;(repeat(first|refine uS ?_ |refine aa rfl ?_))
         refine uJ [1,2,3,9,13,26,27,28,32,33,34,38] ?_
         refine ae rfl rfl (fun hc5=>?_) (fun hc5=>?_)
         ·refine uG ?_
          refine ai rfl ?_
          refine⟨_,s5,rfl,hm45,?_,hbl⟩
          rw[hpre,hflt,List.filter_append,filter_none (l:=qs[i].drop j++_),List.append_nil]
          ·show Acc s5 _ 2 ((((qs.take i).flatten++qs[i].take j).filter P).map pr)
           rw[hF0];exact hacc5
          ·intro q hq
           have:=HE hqs hpi hx hst.2 q hq
           unfold inK;rw[this,hst.1];simp
         ·cases hc5
        |false=>
         cases hlo:(qs[i][j]).1.lt lo with
         |true=>
          have hP:P qs[i][j]=false:=by show inK lo hi qs[i][j]=false;unfold inK;rw[hlo];rfl
          rw[hP] at hsn
          simp only[Bool.false_eq_true,if_false,List.append_nil] at hsn
          have hfin:J (j+1, .slc al (fl.map pr).length cl xl) [(1, .str lo),(2, .str hi),(3, .int .i64 (n:Int)),(9, .slc al (fl.map pr).length cl xl),(26, .slc (some (b,off',1)) qs.length cx x),(27, .int .i64 (qs.length:Int)),(28, .int .i64 (i:Int)),(32, .slc (some (b6,off6,2)) qs[i].length c2 x2),(33, .int .i64 (qs[i].length:Int)),(34, .int .i64 ((j+1:Nat):Int))] s5:=⟨hm45,by simp only;omega,by simp only;rw[hsn];exact hacc5,hbl,hq5,hk5,rfl⟩
          cases hem:hi.beq ⟨0,0⟩ with
          |true=>
           (repeat(first|refine uS ?_ |refine aa rfl ?_));refine ad (by simp(disch:=omega) only[uB,uT,ng,hem,Bool.not_true];exact rfl) ?_;(repeat(first|refine uS ?_ |refine aa rfl ?_))
           refine uJ [1,2,3,9,13,26,27,28,32,33,34,38] ?_
           refine ae rfl rfl (fun hc5=>?_) (fun hc5=>?_)
           ·cases hc5
           ·(repeat(first|refine uS ?_ |refine aa rfl ?_));refine ad (by simp(disch:=omega) only[uB,uT,eu,ah aE rfl aF g5 g0,hlo,Bool.not_true];exact rfl) ?_;(repeat(first|refine uS ?_ |refine aa rfl ?_))
            refine uJ [1,2,3,9,13,26,27,28,32,33,34,51] ?_
            refine ae rfl rfl (fun hc6=>?_) (fun hc6=>?_)
            ·cases hc6
            ·refine uG ?_
             exact aH _ _ hfin (by simp only;omega) (by simp[aI,az])
          |false=>
           rw[hem] at hst
           have hlt:(qs[i][j]).1.lt hi=true:=by simpa using hst
           (repeat(first|refine uS ?_ |refine aa rfl ?_));refine ad (by simp(disch:=omega) only[uB,uT,ng,hem,hlt,Bool.not_false,Bool.not_true,eu,ah aE rfl aF g5 g0];exact rfl) ?_;(repeat(first|refine uS ?_ |refine aa rfl ?_))
           refine uJ [1,2,3,9,13,26,27,28,32,33,34,38] ?_
           refine ae rfl rfl (fun hc5=>?_) (fun hc5=>?_)
           ·cases hc5
           ·(repeat(first|refine uS ?_ |refine aa rfl ?_));refine ad (by simp(disch:=omega) only[uB,uT,eu,ah aE rfl aF g5 g0,hlo,Bool.not_true];exact rfl) ?_;(repeat(first|refine uS ?_ |refine aa rfl ?_))
            refine uJ [1,2,3,9,13,26,27,28,32,33,34,51] ?_
            refine ae rfl rfl (fun hc6=>?_) (fun hc6=>?_)
            ·cases hc6
            ·refine uG ?_
             exact aH _ _ hfin (by simp only;omega) (by simp[aI,az])
         |false=>
          have hP:P qs[i][j]=true:=by
           show inK lo hi qs[i][j]=true
           unfold inK
           rw[hlo]
           cases hb:hi.beq ⟨0,0⟩ with
           |true=>rfl
           |false=>rw[hb] at hst;simpa using hst
          rw[hP] at hsn
          simp only[if_true] at hsn
          let s6:St:={s5 with h:=s5.h.put s5.nx (.cells (Tr.of [.str (qs[i][j]).1, .str (qs[i][j]).2]) 2),nx:=s5.nx+1}
          have hm6:Am.Mod No s5 s6:=(Mod.refl _ s5).new _
          have hacc6:=hacc5.mod hm6 (fun _ _ h=>h)
          have hsrc:aZ s6 2 (.slc (some (s5.nx,0,2)) 1 1 true)=some ([pr qs[i][j]].length,[pr qs[i][j]].flatten):=gB (rows:=[pr qs[i][j]]) rfl (fun r hr=>by rcases List.mem_singleton.mp hr with rfl;rfl) bm rfl
          obtain⟨l',s7,e1,e2,e3,e4⟩:=gG bE mO hacc6 hsrc (fun r hr=>by rcases List.mem_singleton.mp hr with rfl;rfl) (by simp) rfl (by simp;omega)
          simp only[s6] at e1
          have hm7:Am.Mod No s s7:=(hm45.trans hm6 (fun _ _ h=>h)).trans e3 (fun b hb h=>by have:=hbl b h;omega)
          have hs6n:s6.nx=s5.nx+1:=rfl
          have hm45n:=hm45.nx
          have hfin:J (j+1,l') [(1, .str lo),(2, .str hi),(3, .int .i64 (n:Int)),(9,l'),(26, .slc (some (b,off',1)) qs.length cx x),(27, .int .i64 (qs.length:Int)),(28, .int .i64 (i:Int)),(32, .slc (some (b6,off6,2)) qs[i].length c2 x2),(33, .int .i64 (qs[i].length:Int)),(34, .int .i64 ((j+1:Nat):Int))] s7:=⟨hm7,by simp only;omega,by simp only;rw[hsn,List.map_append];exact e2,fun b hb=>by rw[e4] at hb;simp at hb;omega,(hq5.no hm6).mod e3 (fun b hb h=>by have:=hF b hb;have:=hbl b h;omega),(hk5.mod hm6 (fun _ _ h=>h)).mod e3 (fun b hb h=>by have:=hF b (k4 b (by cases hb;rfl));have:=hbl b h;omega),rfl⟩
          cases hem:hi.beq ⟨0,0⟩ with
          |true=>
           (repeat(first|refine uS ?_ |refine aa rfl ?_));refine ad (by simp(disch:=omega) only[uB,uT,ng,hem,Bool.not_true];exact rfl) ?_;(repeat(first|refine uS ?_ |refine aa rfl ?_))
           refine uJ [1,2,3,9,13,26,27,28,32,33,34,38] ?_
           refine ae rfl rfl (fun hc5=>?_) (fun hc5=>?_)
           ·cases hc5
           ·(repeat(first|refine uS ?_ |refine aa rfl ?_));refine ad (by simp(disch:=omega) only[uB,uT,eu,ah aE rfl aF g5 g0,hlo,Bool.not_false];exact rfl) ?_;(repeat(first|refine uS ?_ |refine aa rfl ?_))
            refine uJ [1,2,3,9,13,26,27,28,32,33,34,51] ?_
            refine ae rfl rfl (fun hc6=>?_) (fun hc6=>?_)
            ·repeat(first|refine uS ?_ |refine aa rfl ?_ |refine ad (by simp(disch:=omega) only[uB,uT,cE nS rfl bW g5 hx94,jZ,fM bE (.inl rfl),e1];exact rfl) ?_)
             exact aH _ _ hfin (by simp only;omega) (by simp[aI,az])
            ·cases hc6
          |false=>
           rw[hem] at hst
           have hlt:(qs[i][j]).1.lt hi=true:=by simpa using hst
           (repeat(first|refine uS ?_ |refine aa rfl ?_));refine ad (by simp(disch:=omega) only[uB,uT,ng,hem,hlt,Bool.not_false,Bool.not_true,eu,ah aE rfl aF g5 g0];exact rfl) ?_;(repeat(first|refine uS ?_ |refine aa rfl ?_))
           refine uJ [1,2,3,9,13,26,27,28,32,33,34,38] ?_
           refine ae rfl rfl (fun hc5=>?_) (fun hc5=>?_)
           ·cases hc5
           ·(repeat(first|refine uS ?_ |refine aa rfl ?_));refine ad (by simp(disch:=omega) only[uB,uT,eu,ah aE rfl aF g5 g0,hlo,Bool.not_false];exact rfl) ?_;(repeat(first|refine uS ?_ |refine aa rfl ?_))
            refine uJ [1,2,3,9,13,26,27,28,32,33,34,51] ?_
            refine ae rfl rfl (fun hc6=>?_) (fun hc6=>?_)
            ·repeat(first|refine uS ?_ |refine aa rfl ?_ |refine ad (by simp(disch:=omega) only[uB,uT,cE nS rfl bW g5 hx94,jZ,fM bE (.inl rfl),e1];exact rfl) ?_)
             exact aH _ _ hfin (by simp only;omega) (by simp[aI,az])
            ·cases hc6
      ·simp at hc3
       obtain rfl:j=qs[i].length:=by omega
       refine uG ?_
       refine aH (i+1,l) [(1, .str lo),(2, .str hi),(3, .int .i64 (n:Int)),(9,l),(26, .slc (some (b,off',1)) qs.length cx x),(27, .int .i64 (qs.length:Int)),(28, .int .i64 ((i+1:Nat):Int))] ⟨hm4,by simp only;omega,?_,hbl,hq4,rfl⟩ (by simp only;omega) (by simp[aI,az])
       simp only
       rw[vz hc2]
       rw[List.take_length] at hacc
       exact hacc
     ·simp at hc2
      obtain rfl:i=qs.length:=by omega
      refine uG ?_
      refine ai rfl ?_
      exact⟨l,s3,rfl,hm3,by rw[hpre];simpa using hacc,hbl⟩
    ·(intro v s' h;simp at h)
 ·(intro v s' h;simp at h)
end
end Go.Proofs.Ytofohkdkpbigiaa
end
section
namespace Go.Proofs.Ytofohkdkpbigiaa
open Go.Am
set_option maxRecDepth 10000
set_option maxHeartbeats 1000000
set_option linter.unusedSimpArgs false
structure Ver where
 t:Int
 v:Str
 g:Bool
def vr (x:Ver):List AV:=[.int .i64 x.t, .str x.v, .bool x.g]
abbrev Al:=List (Str×List Ver)
def lkA:Al→Str→List Ver
 |[],_=>[]
 |(a,vs)::l,k=>match k.beq a with
  |true=>vs
  |false=>lkA l k
structure SM where
 room:Int
 size:Int
 last:Int
 ps:List Prs
 all:Al
def Jl (s:St)(G F:Nat→Prop)(sb mb:Nat)(e:AV×AV)(a:Str×List Ver):Prop:=
 e.1= .str a.1∧Acc s e.2 3 (a.2.map vr)∧∀b,blk e.2=some b→G b∧b≠sb∧b≠mb∧¬F b
structure Lay where
 sb:Nat
 mb:Nat
 kv:AV
 es:List (AV×AV)
 cs:Tr AV
 F:Nat→Prop
structure StR (s:St)(G:Nat→Prop)(p:AV)(m:SM)(y:Lay):Prop where
 ptr:p= .ptr (some (y.sb,0))
 hsb:s.h.get y.sb=some (.cells y.cs 5)
 hcs:ldL y.cs 0 5=some [.int .i64 m.room, .int .i64 m.size, .int .i64 m.last,y.kv, .map (some y.mb)]
 hmb:s.h.get y.mb=some (.map y.es)
 gs:G y.sb∧G y.mb∧y.sb≠y.mb∧¬y.F y.sb∧¬y.F y.mb
 fg:∀b,y.F b→G b
 lt:∀b,G b→b<s.nx
 pg:Pgs s y.F y.kv m.ps
 cap:Cap y.kv
 hes:dM (Jl s G y.F y.sb y.mb) y.es m.all
 apart:y.es.Pairwise fun e f=>∀b,blk e.2=some b→blk f.2≠some b
structure SOK (m:SM):Prop where
 rt:Rt m.ps
 keys:∀k,(∃q∈m.ps.flatten,q.1=k)↔lkA m.all k≠[]
 ent:∀a∈m.all,a.2≠[]
 num:m.all.length=m.ps.flatten.length
 dist:m.all.Pairwise fun a b=>a.1≠b.1
 size:m.all.length≤m.size∧m.size≤m.room
 room:m.room≤4096
 few:∀a∈m.all,a.2.length≤m.size
 last:∀a∈m.all,∀x∈a.2,x.t≤m.last
theorem Jl.mod {s t:St}{G F B:Nat→Prop}{sb mb:Nat}{e:AV×AV}{a:Str×List Ver}(h:Jl s G F sb mb e a)(hm:Am.Mod B s t)(hG:∀b,G b→¬B b):Jl t G F sb mb e a:=
 ⟨h.1,h.2.1.mod hm fun b hb=>hG b (h.2.2 b hb).1,h.2.2⟩
theorem StR.mod {s t:St}{G B:Nat→Prop}{p:AV}{m:SM}{y:Lay}(h:StR s G p m y)(hm:Am.Mod B s t)(hG:∀b,G b→¬B b):StR t G p m y:=
 ⟨h.ptr,(hm.old _ (h.lt _ h.gs.1) (hG _ h.gs.1)).trans h.hsb,h.hcs,(hm.old _ (h.lt _ h.gs.2.1) (hG _ h.gs.2.1)).trans h.hmb,h.gs,h.fg,fun b hb=>Nat.lt_of_lt_of_le (h.lt b hb) hm.nx,h.pg.mod hm fun b hb=>hG b (h.fg b hb),h.cap,h.hes.mono fun _ _ _ _ r=>r.mod hm hG,h.apart⟩
theorem IS {α:Type}{R:α→α→Prop}(hs:∀a b,R a b→R b a):∀ {l:List α},l.Pairwise R→∀a∈l,∀b∈l,a≠b→R a b
 |[],_,a,ha,_,_,_=>by simp at ha
 |x::l,h,a,ha,b,hb,hn=>by
  obtain⟨h1,h2⟩:=List.pairwise_cons.mp h
  rcases List.mem_cons.mp ha with e1|ha1
  ·rcases List.mem_cons.mp hb with e2|hb1
   ·exact absurd (e1.trans e2.symm) hn
   ·rw[e1];exact h1 b hb1
  ·rcases List.mem_cons.mp hb with e2|hb1
   ·rw[e2];exact hs _ _ (h1 a ha1)
   ·exact IS hs h2 a ha1 b hb1 hn
theorem xX {a b:Str}:fx (.str a) (.str b)=some (a.beq b):=rfl
theorem find_spec {R:AV→List Ver→Prop}{k:Str}:∀ {es:List (AV×AV)} {al:Al},dM (fun e a=>e.1= .str a.1∧R e.2 a.2) es al→
  (nA (.str k) es=some none∧lkA al k=[])∨∃u,nA (.str k) es=some (some u)∧R u (lkA al k)∧(.str k,u)∈es
 |[],[],_=> .inl ⟨rfl,rfl⟩
 |[],_::_,h=>h.elim
 | _::_,[],h=>h.elim
 |(a,v)::es,(b,vs)::al,⟨⟨h1,h2⟩,h3⟩=>by
  simp only at h1 h2
  subst h1
  simp only[nA,xX,lkA]
  cases hb:k.beq b with
  |true=>have:=Str.nM hb;subst this;exact .inr ⟨v,rfl,h2,List.mem_cons_self⟩
  |false=>
   rcases find_spec h3 with h|⟨u,g1,g2,g3⟩
   ·exact .inl h
   ·exact .inr ⟨u,g1,g2,List.mem_cons_of_mem _ g3⟩
theorem zy {s:St}{v:AV}{l:List Ver}(h:Acc s v 3 (l.map vr)){i:Nat}{q:Ver}(hq:l[i]? =some q):
  ∃b t n x,v= .slc (some (b,0,3)) l.length l.length x∧b<s.nx∧s.h.get b=some (.cells t n)∧t.get (0+i*3)=some (.int .i64 q.t)∧t.get (0+i*3+1)=some (.str q.v)∧t.get (0+i*3+2)=some (.bool q.g)∧ldL t (0+i*3) 3=some (vr q):=by
 rcases h.ex with⟨_,e⟩|⟨b,x,t,rfl,h1,⟨f,h2⟩,h3⟩
 ·have:l=[]:=by simpa using e
  rw[this] at hq;simp at hq
 ·have:=gD h.len h3 i (vr q) (by simp[hq])
  obtain⟨_,k4⟩:=aR.mp this
  exact⟨b,t,_,x,by simp,h1,h2,k4 0 _ rfl,k4 1 _ rfl,k4 2 _ rfl,this⟩
section
variable {O:bj}
theorem JM:X.fns.get 75=some Try.f75:=by kernel_rfl
theorem Lp:X.fns.get 58=some Try.f58:=by kernel_rfl
theorem Nl:X.fns.get 59=some Try.f59:=by kernel_rfl
theorem uR {b off:Nat}:af X 73 (.ptr (some (b,off))) 0=some (.pure (.ptr (some (b,off)))):=by
 simp only[af,qY,bh,List.getElem?_cons_zero,ay,Nat.add_zero]
theorem ou {b off:Nat}:af X 73 (.ptr (some (b,off))) 1=some (.pure (.ptr (some (b,off+1)))):=by
 simp only[af,qY,bh,List.getElem?_cons_zero,List.getElem?_cons_succ,ay]
theorem yT {b off:Nat}:af X 73 (.ptr (some (b,off))) 2=some (.pure (.ptr (some (b,off+2)))):=by
 simp only[af,qY,bh,List.getElem?_cons_zero,List.getElem?_cons_succ,ay]
theorem nU {b off:Nat}:af X 73 (.ptr (some (b,off))) 3=some (.pure (.ptr (some (b,off+3)))):=by
 simp only[af,qY,bh,List.getElem?_cons_zero,List.getElem?_cons_succ,iq]
theorem iz {b off:Nat}:af X 73 (.ptr (some (b,off))) 4=some (.pure (.ptr (some (b,off+4)))):=by
 simp only[af,qY,bh,List.getElem?_cons_zero,List.getElem?_cons_succ,dJ]
theorem pO {b off:Nat}:af X 69 (.ptr (some (b,off))) 0=some (.pure (.ptr (some (b,off)))):=by
 simp only[af,ki,bh,List.getElem?_cons_zero,ay,Nat.add_zero]
theorem MJ {b off:Nat}:af X 69 (.ptr (some (b,off))) 1=some (.pure (.ptr (some (b,off+1)))):=by
 simp only[af,ki,bh,List.getElem?_cons_zero,List.getElem?_cons_succ,aF]
theorem Ek {b off:Nat}:af X 69 (.ptr (some (b,off))) 2=some (.pure (.ptr (some (b,off+2)))):=by
 simp only[af,ki,bh,List.getElem?_cons_zero,List.getElem?_cons_succ,eC]
theorem StR.cell {s:St}{G:Nat→Prop}{p:AV}{m:SM}{y:Lay}(h:StR s G p m y):y.cs.get 0=some (.int .i64 m.room)∧y.cs.get 1=some (.int .i64 m.size)∧y.cs.get 2=some (.int .i64 m.last)∧y.cs.get 3=some y.kv∧y.cs.get 4=some (.map (some y.mb)):=by
 have g:=(aR.mp h.hcs).2
 simp only[Nat.zero_add] at g
 exact⟨g 0 _ rfl,g 1 _ rfl,g 2 _ rfl,g 3 _ rfl,g 4 _ rfl⟩
theorem StR.look {s:St}{G:Nat→Prop}{p:AV}{m:SM}{y:Lay}(h:StR s G p m y)(k:Str):
  ∃u,eN X 71 (.map (some y.mb)) (.str k) false s=some (.pure u)∧Acc s u 3 ((lkA m.all k).map vr)∧(∀b,blk u=some b→G b∧b≠y.sb∧b≠y.mb∧¬y.F b)∧(∀e∈y.es,e.1≠ .str k→∀b,blk e.2=some b→blk u≠some b)∧(lkA m.all k≠[]→(.str k,u)∈y.es):=by
 have hl:∀o,nA (.str k) y.es=some o→eN X 71 (.map (some y.mb)) (.str k) false s=some (.pure (o.getD (.slc none 0 0 true))):=fun o ho=>by
  simp only[eN,dz,aE,mapOf,h.hmb,plainKey,ho]
  cases o with
  |none=>simp only[w6,EH,oR];rfl
  |some u=>rfl
 rcases find_spec (R:=fun u vs=>Acc s u 3 (vs.map vr)∧∀b,blk u=some b→G b∧b≠y.sb∧b≠y.mb∧¬y.F b) (k:=k) (h.hes.mono fun e a _ _ r=>⟨r.1,r.2.1,r.2.2⟩) with⟨h1,h2⟩|⟨u,h1,h2,h3⟩
 ·exact⟨_,hl _ h1,by rw[h2];exact Acc.nil,fun b hb=>(by cases hb),fun e he hn b hb h=>(by cases h),fun h=>absurd h2 h⟩
 ·exact⟨_,hl _ h1,h2.1,h2.2,fun e he hn b hb=>IS (fun a c hr b hb h=>hr b h hb) h.apart e he _ h3 (fun e2=>hn (by rw[e2])) b hb,fun _=>h3⟩
theorem zn {k:Str}:∀ {al:Al},lkA al k≠[]→∃a∈al,a.1=k∧a.2=lkA al k
 |[],h=>absurd rfl h
 |(a,vs)::al,h=>by
  simp only[lkA] at h ⊢
  cases hb:k.beq a with
  |true=>exact⟨_,List.mem_cons_self,(Str.nM hb).symm,rfl⟩
  |false=>
   rw[hb] at h
   obtain⟨x,h1,h2,h3⟩:=zn (al:=al) h
   exact⟨x,List.mem_cons_of_mem _ h1,h2,h3⟩
theorem A9:∀ {ps:List Prs},(∀p∈ps,p≠[])→ps.length≤ps.flatten.length
 |[],_=>Nat.le_refl _
 |p::ps,h=>by
  have h1:=A9 fun q hq=>h q (List.mem_cons_of_mem _ hq)
  have h2:=List.length_pos_iff.mpr (h p List.mem_cons_self)
  simp only[List.length_cons,List.flatten_cons,List.length_append];omega
theorem SOK.len {m:SM}(h:SOK m)(k:Str):(lkA m.all k).length≤4096:=by
 by_cases h0:lkA m.all k=[]
 ·rw[h0];simp
 ·obtain⟨a,h1,_,h2⟩:=zn h0
  have:=h.few a h1
  have:=h.size.2
  have:=h.room
  rw[←h2];omega
theorem SOK.Iw {m:SM}(h:SOK m):m.ps.length≤4096∧m.ps.flatten.length≤4096:=by
 have h1:=A9 h.rt.one
 have h2:=h.num
 have h3:=h.size
 have h4:=h.room
 omega
def mu (l:List Ver):Int:=match l.getLast? with
 |some x=>x.t
 |none=>0
theorem ye (ho:O 75=none){s:St}{G:Nat→Prop}{p:AV}{m:SM}{y:Lay}(h:StR s G p m y)(k:Str)(hl:(lkA m.all k).length≤1000000):
  Ca X O (.fn 75) [p, .str k] s fun z=>z= .ret (.int .i64 (mu (lkA m.all k))) s:=by
 obtain⟨c0,c1,c2,c3,c4⟩:=h.cell
 obtain⟨u,hu,hacc,_,_,_⟩:=h.look k
 have hp:=h.ptr
 subst hp
 obtain⟨a,c,x,rfl,_⟩:=hacc.sli.ex
 rw[List.length_map] at hu hacc
 refine bb ho JM rfl ?_
 unfold aD aD aD
 by_cases h0:lkA m.all k=[]
 ·have d0:decide ((((lkA m.all k).length:Nat):Int)=0)=true:=by rw[h0];simp
  repeat(first|refine uS ?_ |refine aa rfl ?_ |refine ad (by simp(disch:=omega) only[uB,uT,qn du,iz,ah dz rfl dJ h.hsb c4,Nat.zero_add,hu,d0];exact rfl) ?_)
  refine uJ [0,1,17] ?_
  refine ae rfl rfl (fun hc=>?_) (fun hc=>?_)
  ·refine uG ?_
   refine ai rfl ?_
   rw[h0];rfl
  ·cases hc
 ·have d0:decide ((((lkA m.all k).length:Nat):Int)=0)=false:=by simpa using h0
  repeat(first|refine uS ?_ |refine aa rfl ?_ |refine ad (by simp(disch:=omega) only[uB,uT,qn du,iz,ah dz rfl dJ h.hsb c4,Nat.zero_add,hu,d0];exact rfl) ?_)
  refine uJ [0,1,17] ?_
  refine ae rfl rfl (fun hc=>?_) (fun hc=>?_)
  ·cases hc
  ·have hl0:0<(lkA m.all k).length:=List.length_pos_iff.mpr h0
   obtain⟨q,hq⟩:∃q,(lkA m.all k)[(lkA m.all k).length- 1]? =some q:=⟨_,List.getElem?_eq_getElem (by omega)⟩
   obtain⟨b5,t5,n5,x5,e5,_,l1,l2,l3,l4,l5⟩:=zy hacc hq
   cases e5
   have hi:(((lkA m.all k).length:Nat):Int)- 1=(((lkA m.all k).length- 1:Nat):Int):=by omega
   repeat(first|refine uS ?_ |refine aa rfl ?_ |refine ad (by simp(disch:=omega) only[uB,uT,bN,iz,ah dz rfl dJ h.hsb c4,Nat.zero_add,hu,hi,aQ iC eR,Int.toNat_natCast,pO,ah aN rfl ay l1 ((Nat.zero_add _▸l2))];exact rfl) ?_)
   refine ai rfl ?_
   unfold mu
   rw[List.getLast?_eq_getElem?,hq]
   rfl
theorem tE (ho:O 58=none){s:St}{G:Nat→Prop}{p:AV}{m:SM}{y:Lay}(h:StR s G p m y):
  Ca X O (.fn 58) [p] s fun z=>z= .ret (.int .i64 m.size) s:=by
 obtain⟨c0,c1,c2,c3,c4⟩:=h.cell
 have hp:=h.ptr
 subst hp
 refine bb ho Lp rfl ?_
 unfold aD aD
 repeat(first|refine uS ?_ |refine aa rfl ?_ |refine ad (by simp(disch:=omega) only[uB,uT,qn du];exact rfl) ?_)
 refine uJ [0,4] ?_
 refine ae rfl rfl (fun hc=>?_) (fun hc=>?_)
 ·cases hc
 ·repeat(first|refine uS ?_ |refine aa rfl ?_ |refine ad (by simp(disch:=omega) only[uB,uT,ou,Nat.zero_add,ah aN rfl ay h.hsb c1];exact rfl) ?_)
  refine ai rfl ?_
  rfl
def uu (m:SM)(t:Int):Bool:=decide (1≤t)&& (decide (t<1099511627776)&&decide (m.last≤t))
theorem Bh (ho:O 59=none){s:St}{G:Nat→Prop}{p:AV}{m:SM}{y:Lay}(h:StR s G p m y)(t:Int):
  Ca X O (.fn 59) [p, .int .i64 t] s fun z=>z= .ret (.bool (uu m t)) s:=by
 obtain⟨c0,c1,c2,c3,c4⟩:=h.cell
 have hp:=h.ptr
 subst hp
 refine bb ho Nl rfl ?_
 unfold aD aD aD
 unfold uu
 cases d1:decide (1≤t) with
 |false=>
  repeat(first|refine uS ?_ |refine aa rfl ?_ |refine ad (by simp(disch:=omega) only[uB,uT,d1];exact rfl) ?_)
  refine ai rfl ?_
  rfl
 |true=>
  cases d2:decide (t<1099511627776) with
  |false=>
   repeat(first|refine uS ?_ |refine aa rfl ?_ |refine ad (by simp(disch:=omega) only[uB,uT,d1,d2];exact rfl) ?_)
   refine ai rfl ?_
   rfl
  |true=>
   repeat(first|refine uS ?_ |refine aa rfl ?_ |refine ad (by simp(disch:=omega) only[uB,uT,d1,d2,yT,Nat.zero_add,ah aN rfl ay h.hsb c2];exact rfl) ?_)
   refine ai rfl ?_
   rfl
end
end Go.Proofs.Ytofohkdkpbigiaa
end
