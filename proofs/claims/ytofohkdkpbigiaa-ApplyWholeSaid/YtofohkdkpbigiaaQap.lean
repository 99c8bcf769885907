/-
  A part of the texts.
-/
import Derived.Test.YtofohkdkpbigiaaQao
section
namespace Go.Proofs.Ytofohkdkpbigiaa
open Go.Am
set_option maxRecDepth 10000
set_option maxHeartbeats 1000000
set_option linter.unusedSimpArgs false
def jW (all:Al)(t n:Int):List (Str×Str)→List (Str×Str)→List (Str×Str)
 |[],out=>out
 |q::qs,out=>if n≤(out.length:Int) then out else match nE (lkA all q.1) t with
  |(v,true)=>jW all t n qs (out++[(q.1,v)])
  |(_,false)=>jW all t n qs out
section
variable {O:bj}
theorem Ln:X.fns.get 15=some Try.f15:=by kernel_rfl
structure Hc (O:bj):Prop where
 page:Hx O
 pscan:O 29=none
 get:Lc O
 scan:O 15=none
theorem sf {t a b:TypeId}{r:Nat}{es:List (AV×AV)}{s:St}(hu:X.und t=some (.map a b))(h:s.h.get r=some (.map es)):oU X t (.map (some r)) s=some (.int .i64 es.length):=by simp only[oU,hu,h]
theorem Fl (ho:Hc O){s:St}{G:Nat→Prop}{p:AV}{m:SM}{y:Lay}(h:StR s G p m y)(hk:SOK m){t n:Int}{lo hi:Str}:
  Ca X O (.fn 15) [p, .int .i64 t, .str lo, .str hi, .int .i64 n] s fun z=>∃u s',z= .ret u s'∧Am.Mod No s s'∧Acc s' u 2 ((jW m.all t n (m.ps.flatten.filter (inK lo hi)) []).map pr)∧∀b,blk u=some b→s.nx≤b:=by
 obtain⟨c0,c1,c2,c3,c4⟩:=h.cell
 have hp:=h.ptr
 subst hp
 refine bb ho.scan Ln rfl ?_
 unfold aD aD aD aD aD aD
 repeat(first|refine uS ?_ |refine aa rfl ?_ |refine ad (by simp(disch:=omega) only[uB,uT,qn du];exact rfl) ?_)
 refine uJ [0,1,2,3,4,17] ?_
 refine ae rfl rfl (fun hc=>?_) (fun hc=>?_)
 ·cases hc
 ·refine uG ?_
  have hlen:y.es.length=m.ps.flatten.length:=by rw[h.hes.len,hk.num]
  obtain⟨a,c,x,hkv⟩:=h.pg.slc
  rw[hkv] at c3
  have hpg:=h.pg
  have hcap:=h.cap
  rw[hkv] at hpg hcap
  have hpl:=hk.Iw
  refine aU [(0,none),(1,none),(2,none),(3,none),(4,none),(5,none),(6,none),(7,none),(8,none),(9,none),(10,none),(13,none),(11,some [true,false,true,true,true,true,false,false,false,true,true,true]),(12,none)] (by kernel_rfl) (by kernel_rfl) (by simp(disch:=omega) only[uB,uT,Nat.reduceEqDiff,↓reduceIte,uD,mask,aC,aB,bN,nU,iz,Nat.zero_add,ah bV rfl iq h.hsb c3,ah dz rfl dJ h.hsb c4,sf dz h.hmb];exact rfl) ?_
  refine cg (qt ho.page ho.pscan hpg (fun b hb=>h.lt b (h.fg b hb)) hcap hk.rt (by omega) (by omega) (lo:=lo) (hi:=hi) (n:=y.es.length) (by omega)) ?_ ?_
  ·rintro z s1 ⟨u,s1',e,hm1,hacc1,hub1⟩
   cases e
   have h1:=h.mod hm1 (fun _ _ h=>h)
   obtain⟨a1,c1',x1,rfl,_⟩:=hacc1.sli.ex
   refine⟨_,(by simp(disch:=omega) only[uB,uT,Nat.reduceEqDiff,↓reduceIte,uE,aC,aB,List.map_cons,bN,nU,iz,Nat.zero_add,ah bV rfl iq h1.hsb c3,ah dz rfl dJ h1.hsb c4,sf dz h1.hmb];exact rfl),?_⟩
   have hql:(m.ps.flatten.filter (inK lo hi)).length≤4096:=Nat.le_trans (List.length_filter_le _ _) hpl.2
   rw[List.length_map] at hacc1 hub1
   simp only[List.length_map]
   generalize m.ps.flatten.filter (inK lo hi)=qs at*
   refine uH ?_
   let I:Nat×AV×List (Str×Str)→Sl→St→Prop:=fun w L s'=>Am.Mod No s1 s'∧w.1≤qs.length∧Acc s' w.2.1 2 (w.2.2.map pr)∧(∀b,blk w.2.1=some b→s1.nx≤b)∧jW m.all t n (qs.drop w.1) w.2.2=jW m.all t n qs []∧w.2.2.length≤w.1∧L=[(0, .ptr (some (y.sb,0))),(1, .int .i64 t),(4, .int .i64 n),(11,w.2.1),(29, .slc a1 qs.length c1' x1),(30, .int .i64 (qs.length:Int)),(31, .int .i64 (w.1:Int))]
   refine WL.less (M:=[(0, .ptr (some (y.sb,0))),(1, .int .i64 t),(4, .int .i64 n),(11, .slc none 0 0 true),(29, .slc a1 qs.length c1' x1),(30, .int .i64 (qs.length:Int)),(31, .int .i64 ((0:Nat):Int))]) ?_ rfl
   refine aV I (fun w=>qs.length- w.1) ?_ qs.length (0, .slc none 0 0 true,[]) _ s1 (by simp) ⟨Mod.refl _ _,Nat.zero_le _,Acc.nil,fun b hb=>(by cases hb),rfl,Nat.le_refl _,rfl⟩
   rintro⟨i,l,out⟩ L s2 ⟨hm2,hi,hacc,hbl,hsc,hol,rfl⟩
   simp only at hi hacc hbl hsc hol ⊢
   obtain⟨al,cl,xl,rfl,_⟩:=hacc.sli.ex
   refine uG ?_
   refine uJ [0,1,4,11,29,30,31,32] ?_
   refine ae rfl rfl (fun hc2=>?_) (fun hc2=>?_)
   ·simp at hc2
    obtain⟨q,hq⟩:∃q,qs[i]? =some q:=⟨_,List.getElem?_eq_getElem (by omega)⟩
    obtain⟨b5,off5,t5,n5,c5,x5,e5,k1,k2,k3,k4⟩:=ll (hacc1.sli.mod hm2 (fun _ _ h=>h)) hq
    cases e5
    obtain⟨cc,hcc,gc⟩:=ej (cs:=[.str q.1, .str q.2]) (zs:=[.str ⟨0,0⟩, .str ⟨0,0⟩]) rfl
    have g0:=gc 0 _ rfl
    (repeat(first|refine uS ?_ |refine aa rfl ?_));refine ad (by simp(disch:=omega) only[uB,uT,aQ bE bW,cE nS rfl bW k1 k4,Int.toNat_natCast,bQ lC rfl,AV.cells,pr,rh hcc];exact rfl) ?_;(repeat(first|refine uS ?_ |refine aa rfl ?_))
    refine WL.st (fun s'=>Am.Mod No s2 s'∧s2.nx<s'.nx∧s'.h.get s2.nx=some (.cells cc 2)) ⟨((Mod.refl _ s2).new _).put _ (.inl (Nat.le_refl _)) (Nat.lt_succ_self _),Nat.lt_succ_self _,bm⟩ ?_
    rintro s3 ⟨hm3,hn3,g3⟩
    have hm13:Am.Mod No s1 s3:=hm2.trans hm3 (fun _ _ h=>h)
    have hacc3:=hacc.mod hm3 (fun _ _ h=>h)
    have h3:=h1.mod hm13 (fun _ _ h=>h)
    have hdrop:qs.drop i=q::qs.drop (i+1):=by rw[List.drop_eq_getElem_cons (by omega)];rw[List.getElem?_eq_getElem (by omega)] at hq;cases hq;rfl
    rw[hdrop] at hsc
    refine uG ?_
    refine uJ [0,1,4,11,13,29,30,31,38] ?_
    refine ae rfl rfl (fun hc3=>?_) (fun hc3=>?_)
    ·simp at hc3
     refine uG ?_
     refine ai rfl ?_
     refine⟨_,s3,rfl,hm1.trans hm13 (fun _ _ h=>h),?_,fun b hb=>by have:=hbl b hb;have:=hm1.nx;omega⟩
     rw[←hsc]
     simp only[jW,if_pos hc3]
     exact hacc3
    ·simp at hc3
     repeat(first|refine uS ?_ |refine aa rfl ?_ |refine ad (by simp(disch:=omega) only[uB,uT,eu,ah aE rfl aF g3 g0];exact rfl) ?_)
     refine aj (vM ho.get h3 hk (t:=t) (k:=q.1)) ?_ ?_
     ·rintro z s4 ⟨s4',e,hm4⟩
      cases e
      have hm14:=hm13.trans hm4 (fun _ _ h=>h)
      have hacc4:=hacc3.mod hm4 (fun _ _ h=>h)
      have g4:=(hm4.old _ hn3 (fun h=>h)).trans g3
      refine uL ?_
      generalize hv:nE (lkA m.all q.1) t=v at*
      refine uG ?_
      refine uJ [0,1,4,11,13,14,29,30,31,47] ?_
      refine ae rfl rfl (fun hc4=>?_) (fun hc4=>?_)
      ·let s5:St:={s4 with h:=s4.h.put s4.nx (.cells (Tr.of [.str q.1, .str v.1]) 2),nx:=s4.nx+1}
       have hm5:Am.Mod No s4 s5:=(Mod.refl _ s4).new _
       have hacc5:=hacc4.mod hm5 (fun _ _ h=>h)
       have hsrc:aZ s5 2 (.slc (some (s4.nx,0,2)) 1 1 true)=some ([pr (q.1,v.1)].length,[pr (q.1,v.1)].flatten):=gB (rows:=[pr (q.1,v.1)]) rfl (fun r hr=>by rcases List.mem_singleton.mp hr with rfl;rfl) bm rfl
       obtain⟨l',s6,e1,e2,e3,e4⟩:=gG bE mO hacc5 hsrc (fun r hr=>by rcases List.mem_singleton.mp hr with rfl;rfl) (by simp) rfl (by simp;omega)
       simp only[s5] at e1
       have hs5n:s5.nx=s4.nx+1:=rfl
       have hn14:=hm14.nx
       have hm16:Am.Mod No s1 s6:=(hm14.trans hm5 (fun _ _ h=>h)).trans e3 (fun b hb h=>by have:=hbl b h;omega)
       have hsn:jW m.all t n (qs.drop (i+1)) (out++[(q.1,v.1)])=jW m.all t n qs []:=by
        rw[←hsc]
        obtain⟨v1,v2⟩:=v
        simp only at hc4
        subst hc4
        simp only[jW,if_neg (show ¬n≤(out.length:Int) by omega),hv]
       repeat(first|refine uS ?_ |refine aa rfl ?_ |refine ad (by simp(disch:=omega) only[uB,uT,eu,ah aE rfl aF g4 g0,ri,jZ,fM bE (.inl rfl),e1];exact rfl) ?_)
       exact aH (i+1,l',out++[(q.1,v.1)]) [(0, .ptr (some (y.sb,0))),(1, .int .i64 t),(4, .int .i64 n),(11,l'),(29, .slc (some (b5,off5,2)) qs.length c1' x1),(30, .int .i64 (qs.length:Int)),(31, .int .i64 ((i+1:Nat):Int))] ⟨hm16,by simp only;omega,by simp only;rw[List.map_append];exact e2,fun b hb=>by rw[e4] at hb;simp at hb;omega,hsn,by simp;omega,rfl⟩ (by simp only;omega) (by simp[aI,az])
      ·have hsn:jW m.all t n (qs.drop (i+1)) out=jW m.all t n qs []:=by
        rw[←hsc]
        obtain⟨v1,v2⟩:=v
        simp only at hc4
        subst hc4
        simp only[jW,if_neg (show ¬n≤(out.length:Int) by omega),hv]
       refine uG ?_
       exact aH (i+1,_,out) [(0, .ptr (some (y.sb,0))),(1, .int .i64 t),(4, .int .i64 n),(11,_),(29, .slc (some (b5,off5,2)) qs.length c1' x1),(30, .int .i64 (qs.length:Int)),(31, .int .i64 ((i+1:Nat):Int))] ⟨hm14,by simp only;omega,hacc4,hbl,hsn,by simp only;omega,rfl⟩ (by simp only;omega) (by simp[aI,az])
     ·rintro z s' ⟨_,e,_⟩
      cases e
   ·simp at hc2
    have:i=qs.length:=by omega
    subst this
    refine uG ?_
    refine ai rfl ?_
    refine⟨_,s2,rfl,hm1.trans hm2 (fun _ _ h=>h),?_,fun b hb=>by have:=hbl b hb;have:=hm1.nx;omega⟩
    rw[←hsc,List.drop_length]
    exact hacc
  ·rintro z s' ⟨_,_,e,_⟩
   cases e
end
end Go.Proofs.Ytofohkdkpbigiaa
end
section
namespace Go.Proofs.Ytofohkdkpbigiaa
open Go.Am
set_option maxRecDepth 10000
set_option maxHeartbeats 1000000
set_option linter.unusedSimpArgs false
section
variable {O:bj}
theorem ID:X.fns.get 78=some Try.f78:=by kernel_rfl
theorem EM:X.fns.get 86=some Try.f86:=by kernel_rfl
theorem Lk:X.fns.get 85=some Try.f85:=by kernel_rfl
theorem KR:X.fns.get 93=some Try.f93:=by kernel_rfl
theorem Gj (ho:O 93=none){s:St}{v b1 b2:AV}{f:FuncId}{qs:List (Str×Str)}{P:Str×Str→Bool}(hs:Sli s v 2 (qs.map pr))(hl:qs.length≤100000)
  (hf:∀s' q,Am.Mod No s s'→Ca X O (.fn f) [.agg (pr q),b1,b2] s' fun z=>∃s2,z= .ret (.bool (P q)) s2∧Am.Mod No s' s2):
  Ca X O (.fn 93) [v, .func (.func f) [] [b1,b2]] s fun z=>∃k s',z= .ret (.int .i64 k) s'∧decide (0≤k)=qs.any P∧Am.Mod No s s':=by
 obtain⟨a,c,x,rfl,_⟩:=hs.ex
 rw[List.length_map] at hs
 refine bb ho KR rfl ?_
 unfold aD aD aD
 rw[List.length_map]
 refine uG ?_
 let I:Nat→Sl→St→Prop:=fun i L s'=>Am.Mod No s s'∧i≤qs.length∧(qs.take i).any P=false∧L=[(0, .slc a qs.length c x),(1, .func (.func f) [] [b1,b2]),(7, .int .i64 (qs.length:Int)),(8, .int .i64 (i:Int))]
 refine WL.less (M:=[(0, .slc a qs.length c x),(1, .func (.func f) [] [b1,b2]),(7, .int .i64 (qs.length:Int)),(8, .int .i64 ((0:Nat):Int))]) ?_ rfl
 refine aV I (fun i=>qs.length- i) ?_ qs.length 0 _ s (by simp) ⟨Mod.refl _ _,Nat.zero_le _,rfl,rfl⟩
 rintro i L s1 ⟨hm1,hi,hno,rfl⟩
 refine uG ?_
 refine uJ [0,1,7,8,9] ?_
 refine ae rfl rfl (fun hc2=>?_) (fun hc2=>?_)
 ·simp at hc2
  obtain⟨q,hq⟩:∃q,qs[i]? =some q:=⟨_,List.getElem?_eq_getElem (by omega)⟩
  obtain⟨b5,off5,t5,n5,c5,x5,e5,k1,k2,k3,k4⟩:=ll (hs.mod hm1 (fun _ _ h=>h)) hq
  cases e5
  repeat(first|refine uS ?_ |refine aa rfl ?_ |refine ad (by simp(disch:=omega) only[uB,uT,aQ bE bW,cE nS rfl bW k1 k4,Int.toNat_natCast];exact rfl) ?_)
  refine aj (hf s1 q hm1) ?_ ?_
  ·rintro z s2 ⟨s2',e,hm2⟩
   cases e
   have hm12:=hm1.trans hm2 (fun _ _ h=>h)
   refine uL ?_
   refine uH ?_
   refine uJ [0,1,5,7,8,16] ?_
   refine ae rfl rfl (fun hc3=>?_) (fun hc3=>?_)
   ·refine uG ?_
    refine ai rfl ?_
    refine⟨_,s2,rfl,?_,hm12⟩
    have:qs.any P=true:=List.any_eq_true.mpr ⟨q,List.mem_of_getElem? hq,hc3⟩
    rw[this]
    simp
   ·refine uG ?_
    refine aH (i+1) [(0, .slc (some (b5,off5,2)) qs.length c x),(1, .func (.func f) [] [b1,b2]),(7, .int .i64 (qs.length:Int)),(8, .int .i64 ((i+1:Nat):Int))] ⟨hm12,by omega,?_,rfl⟩ (by show qs.length- (i+1)<qs.length- i;omega) (by simp[aI,az])
    rw[List.take_add_one,hq,List.any_append,hno]
    simp[hc3]
  ·rintro z s' ⟨_,e,_⟩
   cases e
 ·simp at hc2
  have:i=qs.length:=by omega
  subst this
  refine uG ?_
  refine ai rfl ?_
  refine⟨_,s1,rfl,?_,hm1⟩
  rw[List.take_length] at hno
  rw[hno]
  rfl
theorem F3 (hc:O 85=none)(ho:O 93=none){s:St}{v b1 b2:AV}{f:FuncId}{qs:List (Str×Str)}{P:Str×Str→Bool}(hs:Sli s v 2 (qs.map pr))(hl:qs.length≤100000)
  (hf:∀s' q,Am.Mod No s s'→Ca X O (.fn f) [.agg (pr q),b1,b2] s' fun z=>∃s2,z= .ret (.bool (P q)) s2∧Am.Mod No s' s2):
  Ca X O (.fn 85) [v, .func (.func f) [] [b1,b2]] s fun z=>∃s',z= .ret (.bool (qs.any P)) s'∧Am.Mod No s s':=by
 refine bb hc Lk rfl ?_
 unfold aD aD aD
 refine uG ?_
 refine aj (Gj ho hs hl hf) ?_ ?_
 ·rintro z s1 ⟨k,s1',e,h1,h2⟩
  cases e
  refine uL ?_
  refine uG ?_
  refine ai rfl ?_
  refine⟨s1,?_,h2⟩
  rw[←h1];rfl
 ·rintro z s' ⟨_,_,e,_⟩
  cases e
structure Cv (O:bj):Prop where
 scan:Hc O
 last:O 75=none
 since:O 78=none
 since1:O 86=none
 has:O 85=none
 idx:O 93=none
theorem Au (ho:Cv O){s:St}{G:Nat→Prop}{p:AV}{m:SM}{y:Lay}(h:StR s G p m y)(hk:SOK m){t:Int}{b1 b2:Nat}{q:Str×Str}(h1:Cell s b1 p)(h2:Cell s b2 (.int .i64 t))(l1:b1<s.nx)(l2:b2<s.nx):
  Ca X O (.fn 86) [.agg (pr q), .ptr (some (b1,0)), .ptr (some (b2,0))] s fun z=>∃s',z= .ret (.bool (decide (t<mu (lkA m.all q.1)))) s'∧Am.Mod No s s':=by
 have hp:=h.ptr
 subst hp
 refine bb ho.since1 EM rfl ?_
 unfold aD aD aD aD
 (repeat(first|refine uS ?_ |refine aa rfl ?_));refine ad (by simp(disch:=omega) only[uB,uT,cX (cs:=pr q) rfl];exact rfl) ?_;(repeat(first|refine uS ?_ |refine aa rfl ?_))
 refine WL.st (fun s'=>Am.Mod No s s'∧s'.h.get s.nx=some (.cells (Tr.of (pr q)) 2)) ⟨(Mod.refl _ s).new _,bm⟩ ?_
 rintro s1 ⟨hm1,hc1⟩
 have cell:∀ {b:Nat} {v:AV} {s2:St},Am.Mod No s s2→b<s.nx→Cell s b v→Cell s2 b v:=fun hm hb ⟨c,g1,g2⟩=>⟨c,(hm.old _ hb (fun h=>h)).trans g1,g2⟩
 have g0:(Tr.of (pr q)).get 0=some (.str q.1):=by rw[ml];rfl
 have k1:=cell hm1 l1 h1
 have k2:=cell hm1 l2 h2
 have h3:=h.mod hm1 (fun _ _ h=>h)
 have hlen:=hk.len q.1
 refine aU [(0,none),(1,none),(2,none),(4,none),(3,some [true,false,true,false]),(5,none),(6,some [false,false,false])] (by kernel_rfl) (by kernel_rfl) (by simp(disch:=omega) only[uB,uT,Nat.reduceEqDiff,↓reduceIte,uD,mask,aC,aB,k1.load du rfl dw,eu,ah aE rfl aF hc1 g0,k2.load aN rfl ay];exact rfl) ?_
 refine cg (ye ho.last h3 q.1 (by omega)) ?_ ?_
 ·rintro z s2 e
  cases e
  refine⟨_,(by simp(disch:=omega) only[uB,uT,Nat.reduceEqDiff,↓reduceIte,uE,aC,aB,k1.load du rfl dw,eu,ah aE rfl aF hc1 g0,k2.load aN rfl ay];exact rfl),?_⟩
  refine uH ?_
  refine ai rfl ?_
  exact⟨s1,rfl,hm1⟩
 ·rintro z s' e
  cases e
theorem Nz {s:St}{v0 v1:AV}:(fun s':St=>s'.nx=s.nx+2∧Am.Mod No s s'∧Cell s' s.nx v0∧Cell s' (s.nx+1) v1) {h:=(s.h.put s.nx (.cells (Tr.of [v0]) 1)).put (s.nx+1) (.cells (Tr.of [v1]) 1),nx:=s.nx+1+1,gl:=s.gl,sh:=s.sh}:=by
 refine⟨rfl,((Mod.refl _ s).new _).new _,⟨Tr.of [v0],?_,by rw[ml];rfl⟩,⟨Tr.of [v1],bm,by rw[ml];rfl⟩⟩
 show((s.h.put s.nx _).put (s.nx+1) _).get s.nx=_
 rw[aT (by omega),bm]
def zU (m:SM)(lo hi:Str)(t:Int):Bool:=(m.ps.flatten.filter (inK lo hi)).any fun q=>decide (t<mu (lkA m.all q.1))
theorem CK (ho:Cv O){s:St}{G:Nat→Prop}{p:AV}{m:SM}{y:Lay}(h:StR s G p m y)(hk:SOK m){t:Int}{lo hi:Str}:
  Ca X O (.fn 78) [p, .str lo, .str hi, .int .i64 t] s fun z=>∃s',z= .ret (.bool (zU m lo hi t)) s'∧Am.Mod No s s':=by
 obtain⟨c0,c1,c2,c3,c4⟩:=h.cell
 have hp:=h.ptr
 subst hp
 obtain⟨a,c,x,hkv⟩:=h.pg.slc
 rw[hkv] at c3
 have hpg:=h.pg
 have hcap:=h.cap
 rw[hkv] at hpg hcap
 have hpl:=hk.Iw
 have hlen:y.es.length=m.ps.flatten.length:=by rw[h.hes.len,hk.num]
 refine bb ho.since ID rfl ?_
 unfold aD aD aD aD aD
 (repeat(first|refine uS ?_ |refine aa rfl ?_));refine ad (by simp(disch:=omega) only[uB,uT];exact rfl) ?_;(repeat(first|refine uS ?_ |refine aa rfl ?_))
 refine WL.st (fun s':St=>s'.nx=s.nx+2∧Am.Mod No s s'∧Cell s' s.nx (.ptr (some (y.sb,0)))∧Cell s' (s.nx+1) (.int .i64 t)) Nz ?_
 rintro s1 ⟨hn1,hm1,k1,k2⟩
 have h1:=h.mod hm1 (fun _ _ h=>h)
 repeat(first|refine uS ?_ |refine aa rfl ?_ |refine ad (by simp(disch:=omega) only[uB,uT,k1.load du rfl dw,qn du];exact rfl) ?_)
 refine uJ [1,2,4,7,10] ?_
 refine ae rfl rfl (fun hc=>?_) (fun hc=>?_)
 ·cases hc
 ·refine uH ?_
  refine aU [(0,none),(1,none),(2,none),(3,none),(4,none),(5,none),(6,none),(7,none),(8,none),(9,none),(10,none),(12,none),(11,some [true,false,true,true,true,true,false,false,false,true,true,true]),(13,some [false,true,true,true,true,true,true,true]),(14,some [false,false,false,false,false,false,false])] (by kernel_rfl) (by kernel_rfl) (by simp(disch:=omega) only[uB,uT,Nat.reduceEqDiff,↓reduceIte,uD,mask,aC,aB,k1.load du rfl dw,bN,nU,iz,Nat.zero_add,ah bV rfl iq h1.hsb c3,ah dz rfl dJ h1.hsb c4,sf dz h1.hmb];exact rfl) ?_
  refine cg (qt ho.scan.page ho.scan.pscan (hpg.mod hm1 (fun _ _ h=>h)) (fun b hb=>h1.lt b (h1.fg b hb)) hcap hk.rt (by omega) (by omega) (lo:=lo) (hi:=hi) (n:=y.es.length) (by omega)) ?_ ?_
  ·rintro z s2 ⟨u,s2',e,hm2,hacc2,hub2⟩
   cases e
   have hm12:=hm1.trans hm2 (fun _ _ h=>h)
   have h2:=h.mod hm12 (fun _ _ h=>h)
   have cell:∀ {b:Nat} {v:AV} {s3:St},Am.Mod No s1 s3→b<s1.nx→Cell s1 b v→Cell s3 b v:=fun hm hb ⟨c,g1,g2⟩=>⟨c,(hm.old _ hb (fun h=>h)).trans g1,g2⟩
   have w1:=cell hm2 (by omega) k1
   have w2:=cell hm2 (by omega) k2
   obtain⟨a1,c1',x1,rfl,_⟩:=hacc2.sli.ex
   refine⟨_,(by simp(disch:=omega) only[uB,uT,Nat.reduceEqDiff,↓reduceIte,uE,aC,aB,w1.load du rfl dw,bN,nU,iz,Nat.zero_add,ah bV rfl iq h2.hsb c3,ah dz rfl dJ h2.hsb c4,sf dz h2.hmb];exact rfl),?_⟩
   refine cg (F3 (P:=fun q=>decide (t<mu (lkA m.all q.1))) ho.has ho.idx hacc2.sli (Nat.le_trans (List.length_filter_le _ _) (by omega)) (fun s' q hm=>Au ho (h2.mod hm (fun _ _ h=>h)) hk (cell (hm2.trans hm (fun _ _ h=>h)) (by omega) k1) (cell (hm2.trans hm (fun _ _ h=>h)) (by omega) k2) (by have:=hm2.nx;have:=hm.nx;omega) (by have:=hm2.nx;have:=hm.nx;omega))) ?_ ?_
   ·rintro z s3 ⟨s3',e,hm3⟩
    cases e
    have hm23:=hm2.trans hm3 (fun _ _ h=>h)
    have w1':=cell hm23 (by omega) k1
    have h3:=h2.mod hm3 (fun _ _ h=>h)
    refine⟨_,(by simp(disch:=omega) only[uB,uT,Nat.reduceEqDiff,↓reduceIte,uE,aC,aB,w1'.load du rfl dw,bN,nU,iz,Nat.zero_add,ah bV rfl iq h3.hsb c3,ah dz rfl dJ h3.hsb c4,sf dz h3.hmb];exact rfl),?_⟩
    refine uH ?_
    refine ai rfl ?_
    exact⟨s3,rfl,hm12.trans hm3 (fun _ _ h=>h)⟩
   ·rintro z s' ⟨_,e,_⟩
    cases e
  ·rintro z s' ⟨_,_,e,_⟩
   cases e
end
end Go.Proofs.Ytofohkdkpbigiaa
end
section
namespace Go.Proofs.Ytofohkdkpbigiaa
open Go.Am
set_option maxRecDepth 10000
set_option maxHeartbeats 1000000
set_option linter.unusedSimpArgs false
section
variable {O:bj}
theorem N6:X.fns.get 16=some Try.f16:=by kernel_rfl
theorem Ii {s:St}:nY s=some (.val (.map (some s.nx)) {s with h:=s.h.put s.nx (.map []),nx:=s.nx+1}):=rfl
def qg (n:Int):SM:=⟨n,0,0,[],[]⟩
theorem zP {n:Int}(h0:0≤n)(h1:n≤4096):SOK (qg n):=by
 refine⟨⟨fun p hp=>?_,fun p hp=>?_,?_⟩,fun k=>?_,fun a ha=>?_,rfl,?_,⟨Int.le_refl _,h0⟩,h1,fun a ha=>?_,fun a ha=>?_⟩
 ·cases hp
 ·cases hp
 ·exact List.Pairwise.nil
 ·simp[qg,lkA]
 ·cases ha
 ·exact List.Pairwise.nil
 ·cases ha
 ·cases ha
theorem AS {n:Int}{b:Nat}:bz X 73 [(0, .int .i64 n),(4, .map (some b))]=some (.pure (.agg [.int .i64 n, .int .i64 0, .int .i64 0, .slc none 0 0 true, .map (some b)])):=by
 simp only[bz,qY,Eh,cS,ay,iq,dJ,cL,dc,AV.cells,dB,fB]
 rfl
theorem Jq (ho:O 16=none){s:St}{n:Int}(h0:1≤n)(h1:n≤4096):
  Ca X O (.fn 16) [.int .i64 n] s fun z=>∃p s' G y,z= .ret (.tup [p, .int .i64 0]) s'∧StR s' G p (qg n) y∧Am.Mod No s s'∧∀b,G b→s.nx≤b:=by
 refine bb ho N6 rfl ?_
 unfold aD aD
 have d1:decide (n<1)=false:=by simpa using h0
 have d2:decide ((4096:Int)<n)=false:=by simpa using h1
 repeat(first|refine uS ?_ |refine aa rfl ?_ |refine ad (by simp(disch:=omega) only[uB,uT,d1,d2];exact rfl) ?_)
 refine uJ [0,9] ?_
 refine ae rfl rfl (fun hc=>?_) (fun hc=>?_)
 ·cases hc
 ·have hbx:∀ {s':St},dY (.agg [.int .i64 n, .int .i64 0, .int .i64 0, .slc none 0 0 true, .map (some s.nx)]) s'=some (.val (.ptr (some (s'.nx,0))) {s' with h:=s'.h.put s'.nx (.cells (Tr.of [.int .i64 n, .int .i64 0, .int .i64 0, .slc none 0 0 true, .map (some s.nx)]) 5),nx:=s'.nx+1}):=cX rfl
  (repeat(first|refine uS ?_ |refine aa rfl ?_));refine ad (by simp(disch:=omega) only[uB,uT,Ii,AS,hbx];exact rfl) ?_;(repeat(first|refine uS ?_ |refine aa rfl ?_))
  refine ai rfl ?_
  refine⟨_,_,fun b=>b=s.nx∨b=s.nx+1,⟨s.nx+1,s.nx, .slc none 0 0 true,[],Tr.of [.int .i64 n, .int .i64 0, .int .i64 0, .slc none 0 0 true, .map (some s.nx)],fun _=>False⟩,rfl,?_,((Mod.refl _ s).new _).new _,fun b hb=>by rcases hb with rfl|rfl<;>omega⟩
  refine⟨rfl,bm,jK rfl rfl,?_,⟨.inr rfl, .inl rfl,by simp,fun h=>h,fun h=>h⟩,fun b hb=>hb.elim,fun b hb=>?_,⟨[],rfl,⟨none,0,true,rfl,fun h=>absurd rfl h⟩,fun b hb=>(by cases hb),fun i u p hu _=>(by simp at hu)⟩,?_,trivial,List.Pairwise.nil⟩
  ·show((s.h.put s.nx _).put (s.nx+1) _).get s.nx=_
   rw[aT (by omega),bm]
  ·show b<s.nx+1+1
   rcases hb with rfl|rfl<;>omega
  ·intro a n c x e
   cases e;exact Nat.le_refl _
end
end Go.Proofs.Ytofohkdkpbigiaa
end
section
namespace Go.Proofs.Ytofohkdkpbigiaa
open Go.Am
theorem Ad {k:Str}{vs:List Ver}:∀ {al:Al},lkA (iW al k vs) k=vs
 |[]=>by simp only[iW,lkA,Str.fT]
 |(a,ws)::al=>by
  simp only[iW]
  cases hb:k.beq a with
  |true=>simp only[lkA,hb]
  |false=>simp only[lkA,hb];exact Ad
theorem Gl {k k':Str}{vs:List Ver}(hn:k'≠k):∀ {al:Al},lkA (iW al k vs) k'=lkA al k'
 |[]=>by simp only[iW,lkA,Str.beq_false.mpr hn]
 |(a,ws)::al=>by
  simp only[iW]
  cases hb:k.beq a with
  |true=>
   have:=Str.nM hb
   subst this
   simp only[lkA,Str.beq_false.mpr hn]
  |false=>
   simp only[lkA]
   cases k'.beq a with
   |true=>rfl
   |false=>exact Gl hn
theorem mem_set {k:Str}{vs:List Ver}{a:Str×List Ver}:∀ {al:Al},a∈iW al k vs→a=(k,vs)∨a∈al
 |[],h=> .inl (List.mem_singleton.mp h)
 |(b,ws)::al,h=>by
  simp only[iW] at h
  cases hb:k.beq b with
  |true=>
   have:=Str.nM hb
   subst this
   simp only[hb] at h
   rcases List.mem_cons.mp h with rfl|h
   ·exact .inl rfl
   ·exact .inr (List.mem_cons_of_mem _ h)
  |false=>
   simp only[hb] at h
   rcases List.mem_cons.mp h with rfl|h
   ·exact .inr List.mem_cons_self
   ·exact(mem_set h).imp id (List.mem_cons_of_mem _)
theorem DK {k:Str}{vs:List Ver}:∀ {al:Al},(∀a∈al,a.2≠[])→lkA al k=[]→(iW al k vs).length=al.length+1
 |[],_,_=>rfl
 |(b,ws)::al,h,h0=>by
  simp only[lkA] at h0
  simp only[iW]
  cases hb:k.beq b with
  |true=>simp only[hb] at h0;exact absurd h0 (h _ List.mem_cons_self)
  |false=>
   simp only[hb] at h0
   simp only[List.length_cons]
   rw[DK (fun a ha=>h a (List.mem_cons_of_mem _ ha)) h0]
theorem uO {k:Str}{vs:List Ver}:∀ {al:Al},lkA al k≠[]→(iW al k vs).length=al.length
 |[],h0=>absurd rfl h0
 |(b,ws)::al,h0=>by
  simp only[lkA] at h0
  simp only[iW]
  cases hb:k.beq b with
  |true=>rfl
  |false=>
   simp only[hb] at h0
   simp only[List.length_cons]
   rw[uO h0]
theorem vQ {k:Str}{vs:List Ver}:∀ {al:Al},al.Pairwise (fun a b=>a.1≠b.1)→(iW al k vs).Pairwise fun a b=>a.1≠b.1
 |[],_=>List.pairwise_singleton _ _
 |(b,ws)::al,h=>by
  obtain⟨h1,h2⟩:=List.pairwise_cons.mp h
  simp only[iW]
  cases hb:k.beq b with
  |true=>exact List.pairwise_cons.mpr ⟨h1,h2⟩
  |false=>
   refine List.pairwise_cons.mpr ⟨fun a ha=>?_,vQ h2⟩
   rcases mem_set ha with rfl|ha
   ·exact fun e2=>by simp only at e2;subst e2;rw[Str.fT] at hb;cases hb
   ·exact h1 a ha
theorem Ac {k:Str}:∀ {al:Al},lkA al k≠[]→(k,lkA al k)∈al:=by
 intro al h
 obtain⟨a,h1,h2,h3⟩:=zn h
 obtain⟨a1,a2⟩:=a
 simp only at h2 h3
 rw[←h2,←h3] at*
 rw[h2];rw[h2] at h1;exact h1
theorem Em {m m':SM}{k:Str}{v:Ver}{e:Int}(h:SOK m)(hp:Hq m k v m' e)(hv:m.last≤v.t):SOK m':=by
 rcases hp with⟨h0,ht,_,rfl⟩|⟨_,_,_,rfl⟩|⟨_,h1,_,h2,h3,h4,h5,h6⟩
 ·have hm:=Ac h0
  have hl:((lkA m.all k).dropLast++[v]).length=(lkA m.all k).length:=by
   have:=List.length_pos_iff.mpr h0
   simp;omega
  refine⟨h.rt,fun k'=>?_,fun a ha=>?_,?_,vQ h.dist,?_,h.room,fun a ha=>?_,fun a ha x hx=>?_⟩
  ·show(∃q∈m.ps.flatten,q.1=k')↔lkA (iW m.all k _) k'≠[]
   rw[h.keys k']
   by_cases e:k'=k
   ·subst e;rw[Ad];exact⟨fun _=>by simp,fun _=>h0⟩
   ·rw[Gl e]
  ·rcases mem_set ha with rfl|ha
   ·simp
   ·exact h.ent a ha
  ·show(iW m.all k _).length=_
   rw[uO h0];exact h.num
  ·show(iW m.all k _).length≤m.size∧_
   rw[uO h0];exact h.size
  ·rcases mem_set ha with rfl|ha
   ·simp only[hl];exact h.few _ hm
   ·exact h.few a ha
  ·show x.t≤m.last
   rcases mem_set ha with rfl|ha
   ·simp only[List.mem_append,List.mem_singleton] at hx
    rcases hx with hx|rfl
    ·exact h.last _ hm x (List.dropLast_subset _ hx)
    ·rw[←ht]
     unfold mu
     cases hg:(lkA m.all k).getLast? with
     |none=>rw[List.getLast?_eq_none_iff] at hg;exact absurd hg h0
     |some y=>exact h.last _ hm y (List.mem_of_getLast? hg)
   ·exact h.last a ha x hx
 ·exact h
 ·have hlen:(lkA m.all k=[]∧m'.all.length=m.all.length+1)∨(lkA m.all k≠[]∧m'.all.length=m.all.length):=by
   rw[h5]
   by_cases h0:lkA m.all k=[]
   ·exact .inl ⟨h0,DK h.ent h0⟩
   ·exact .inr ⟨h0,uO h0⟩
  have hfew:(lkA m.all k).length≤m.size:=by
   by_cases h0:lkA m.all k=[]
   ·rw[h0];have:=h.size;simp;omega
   ·exact h.few _ (Ac h0)
  have hnum:(lkA m.all k=[]∧m'.ps.flatten.length=m.ps.flatten.length+1)∨(lkA m.all k≠[]∧m'.ps.flatten.length=m.ps.flatten.length):=by
   rcases h6 with⟨h0,e⟩|⟨h0,_,A,B,e1,e2⟩
   ·exact .inr ⟨h0,by rw[e]⟩
   ·refine .inl ⟨h0,?_⟩
    rw[e1,e2];simp only[List.length_append,List.length_cons];omega
  refine⟨?_,fun k'=>?_,fun a ha=>?_,?_,by rw[h5];exact vQ h.dist,?_,by rw[h2];exact h.room,fun a ha=>?_,fun a ha x hx=>?_⟩
  ·rcases h6 with⟨_,e⟩|⟨_,hr,_⟩
   ·rw[e];exact h.rt
   ·exact hr
  ·rw[h5]
   by_cases e:k'=k
   ·subst e
    rw[Ad]
    refine⟨fun _=>by simp,fun _=>?_⟩
    rcases h6 with⟨h0,e⟩|⟨_,_,A,B,_,e2⟩
    ·rw[e];exact(h.keys k').mpr h0
    ·rw[e2];exact⟨_,List.mem_append_right _ List.mem_cons_self,rfl⟩
   ·rw[Gl e,←h.keys k']
    rcases h6 with⟨_,e⟩|⟨_,_,A,B,e1,e2⟩
    ·rw[e]
    ·rw[e1,e2]
     constructor
     ·rintro⟨q,hq,hqk⟩
      rcases List.mem_append.mp hq with hq|hq
      ·exact⟨q,List.mem_append_left _ hq,hqk⟩
      ·rcases List.mem_cons.mp hq with rfl|hq
       ·exact absurd hqk.symm e
       ·exact⟨q,List.mem_append_right _ hq,hqk⟩
     ·rintro⟨q,hq,hqk⟩
      rcases List.mem_append.mp hq with hq|hq
      ·exact⟨q,List.mem_append_left _ hq,hqk⟩
      ·exact⟨q,List.mem_append_right _ (List.mem_cons_of_mem _ hq),hqk⟩
  ·rw[h5] at ha
   rcases mem_set ha with rfl|ha
   ·simp
   ·exact h.ent a ha
  ·have:=h.num
   rcases hlen with⟨e,h7⟩|⟨e,h7⟩<;>rcases hnum with⟨e2,h8⟩|⟨e2,h8⟩
   ·omega
   ·exact absurd e e2
   ·exact absurd e2 e
   ·omega
  ·have:=h.size
   rw[h3,h2]
   rcases hlen with⟨_,h7⟩|⟨_,h7⟩<;>omega
  ·rw[h5] at ha
   rcases mem_set ha with rfl|ha
   ·simp only[List.length_append,List.length_cons,List.length_nil,h3];omega
   ·have:=h.few a ha;omega
  ·rw[h4]
   rw[h5] at ha
   rcases mem_set ha with rfl|ha
   ·simp only[List.mem_append,List.mem_singleton] at hx
    rcases hx with hx|rfl
    ·exact Int.le_trans (h.last _ (Ac fun e=>by rw[e] at hx;cases hx) x hx) hv
    ·exact Int.le_refl _
   ·exact Int.le_trans (h.last a ha x hx) hv
end Go.Proofs.Ytofohkdkpbigiaa
end
section
namespace Go.Proofs.Ytofohkdkpbigiaa
open Go.Am
set_option maxRecDepth 10000
set_option maxHeartbeats 1000000
set_option linter.unusedSimpArgs false
structure Dn where
 client:Int
 seq:Int
 time:Int
 code:Int
def dn (d:Dn):List AV:=[.int .i64 d.client, .int .i64 d.seq, .int .i64 d.time, .int .i64 d.code]
structure MM where
 room:Int
 time:Int
 st:SM
 gH:List Dn
 last:List (Int×Int×Int)
structure kd where
 mb:Nat
 lb:Nat
 sp:AV
 dv:AV
 es:List (AV×AV)
 cs:Tr AV
 G:Nat→Prop
 y:Lay
structure MaR (s:St)(p:AV)(m:MM)(y:kd):Prop where
 ptr:p= .ptr (some (y.mb,0))
 hmb:s.h.get y.mb=some (.cells y.cs 5)
 hcs:ldL y.cs 0 5=some [.int .i64 m.room, .int .i64 m.time,y.sp,y.dv, .map (some y.lb)]
 hlb:s.h.get y.lb=some (.map y.es)
 hes:dM (fun e a=>e.1= .int .i64 a.1∧e.2= .agg [.int .i64 a.2.1, .int .i64 a.2.2]) y.es m.last
 st:StR s y.G y.sp m.st y.y
 acc:Acc s y.dv 4 (m.gH.map dn)
 own:¬y.G y.mb∧¬y.G y.lb∧y.mb≠y.lb∧∀b,blk y.dv=some b→¬y.G b∧b≠y.mb∧b≠y.lb
 lt:y.mb<s.nx∧y.lb<s.nx
theorem MaR.no {s t:St}{p:AV}{m:MM}{y:kd}(h:MaR s p m y)(hm:Am.Mod No s t):MaR t p m y:=
 ⟨h.ptr,(hm.old _ h.lt.1 (fun h=>h)).trans h.hmb,h.hcs,(hm.old _ h.lt.2 (fun h=>h)).trans h.hlb,h.hes,h.st.mod hm (fun _ _ h=>h),h.acc.mod hm (fun _ _ h=>h),h.own,Nat.lt_of_lt_of_le h.lt.1 hm.nx,Nat.lt_of_lt_of_le h.lt.2 hm.nx⟩
theorem MaR.cell {s:St}{p:AV}{m:MM}{y:kd}(h:MaR s p m y):y.cs.get 0=some (.int .i64 m.room)∧y.cs.get 1=some (.int .i64 m.time)∧y.cs.get 2=some y.sp∧y.cs.get 3=some y.dv∧y.cs.get 4=some (.map (some y.lb)):=by
 have g:=(aR.mp h.hcs).2
 simp only[Nat.zero_add] at g
 exact⟨g 0 _ rfl,g 1 _ rfl,g 2 _ rfl,g 3 _ rfl,g 4 _ rfl⟩
section
variable {O:bj}
theorem Il:X.fns.get 9=some Try.f9:=by kernel_rfl
theorem yZ {b off:Nat}:af X 60 (.ptr (some (b,off))) 0=some (.pure (.ptr (some (b,off)))):=by
 simp only[af,qD,bh,List.getElem?_cons_zero,ay,Nat.add_zero]
theorem zY {b off:Nat}:af X 60 (.ptr (some (b,off))) 1=some (.pure (.ptr (some (b,off+1)))):=by
 simp only[af,qD,bh,List.getElem?_cons_zero,List.getElem?_cons_succ,ay]
theorem eJ {b off:Nat}:af X 60 (.ptr (some (b,off))) 2=some (.pure (.ptr (some (b,off+2)))):=by
 simp only[af,qD,bh,List.getElem?_cons_zero,List.getElem?_cons_succ,dw]
theorem v9 (ho:O 9=none){s:St}{p:AV}{m:MM}{y:kd}(h:MaR s p m y):
  Ca X O (.fn 9) [p] s fun z=>z= .ret y.sp s:=by
 obtain⟨c0,c1,c2,c3,c4⟩:=h.cell
 have hp:=h.ptr
 subst hp
 refine bb ho Il rfl ?_
 unfold aD aD
 repeat(first|refine uS ?_ |refine aa rfl ?_ |refine ad (by simp(disch:=omega) only[uB,uT,qn mc];exact rfl) ?_)
 refine uJ [0,4] ?_
 refine ae rfl rfl (fun hc=>?_) (fun hc=>?_)
 ·cases hc
 ·repeat(first|refine uS ?_ |refine aa rfl ?_ |refine ad (by simp(disch:=omega) only[uB,uT,bN,eJ,Nat.zero_add,ah du rfl dw h.hmb c2];exact rfl) ?_)
  refine ai rfl ?_
  rfl
end
end Go.Proofs.Ytofohkdkpbigiaa
end
section
namespace Go.Proofs.Ytofohkdkpbigiaa
open Go.Am
set_option maxRecDepth 10000
set_option maxHeartbeats 1000000
set_option linter.unusedSimpArgs false
def lkC:List (Int×Int×Int)→Int→Option (Int×Int)
 |[],_=>none
 |(a,v)::l,k=>if k=a then some v else lkC l k
theorem yE {a b:Int}:fx (.int .i64 a) (.int .i64 b)=some (decide (a=b)):=by simp[fx]
theorem Mw {k:Int}:∀ {es:List (AV×AV)} {l:List (Int×Int×Int)},dM (fun e a=>e.1= .int .i64 a.1∧e.2= .agg [.int .i64 a.2.1, .int .i64 a.2.2]) es l→
  nA (.int .i64 k) es=some ((lkC l k).map fun q=> .agg [.int .i64 q.1, .int .i64 q.2])
 |[],[],_=>rfl
 |[],_::_,h=>h.elim
 | _::_,[],h=>h.elim
 |(a,v)::es,(b,q)::l,⟨⟨h1,h2⟩,h3⟩=>by
  simp only at h1 h2
  subst h1 h2
  simp only[nA,yE,lkC]
  by_cases e:k=b
  ·rw[if_pos e];simp[e]
  ·rw[if_neg e];simp only[e,decide_false];exact Mw h3
section
variable {O:bj}
theorem Kz:X.fns.get 5=some Try.f5:=by kernel_rfl
theorem GW:X.fns.get 34=some Try.f34:=by kernel_rfl
theorem He {b off:Nat}:af X 60 (.ptr (some (b,off))) 3=some (.pure (.ptr (some (b,off+3)))):=by
 simp only[af,qD,bh,List.getElem?_cons_zero,List.getElem?_cons_succ,sx]
theorem zu {b off:Nat}:af X 60 (.ptr (some (b,off))) 4=some (.pure (.ptr (some (b,off+4)))):=by
 simp only[af,qD,bh,List.getElem?_cons_zero,List.getElem?_cons_succ,qa]
theorem Dc {n:Int}{sp:Option (Nat×Nat)}{b:Nat}:bz X 60 [(0, .int .i64 n),(2, .ptr sp),(4, .map (some b))]=some (.pure (.agg [.int .i64 n, .int .i64 0, .ptr sp, .slc none 0 0 true, .map (some b)])):=by
 simp only[bz,qD,Ej,cS,ay,dw,sx,qa,cL,dc,AV.cells,dB,fB]
 rfl
theorem MaR.look {s:St}{p:AV}{m:MM}{y:kd}(h:MaR s p m y)(k:Int)(ok:Bool):
  eN X 57 (.map (some y.lb)) (.int .i64 k) ok s=oR ok (.agg [.int .i64 ((lkC m.last k).getD (0,0)).1, .int .i64 ((lkC m.last k).getD (0,0)).2]) (lkC m.last k).isSome:=by
 simp only[eN,tu,aN,mapOf,h.hlb,plainKey,Mw h.hes]
 cases lkC m.last k with
 |none=>simp only[Option.map_none,w6,pn];rfl
 |some q=>rfl
theorem wU {b m x:Nat}{c c':Tr AV}{u w:Int}{t0:Tr AB}{g:Tr (Tr AV)}{sh:List Nat}(hs:stL [.int .i64 u, .int .i64 w] 0 c=some c'):cK X 104 (.ptr (some (b,0))) (.agg [.int .i64 u, .int .i64 w]) {h:=t0.put b (.cells c m),nx:=x,gl:=g,sh:=sh}=some (.val (.tup []) {h:=(t0.put b (.cells c m)).put b (.cells c' m),nx:=x,gl:=g,sh:=sh}):=
 dC By rfl rfl hs
theorem Mn {v:AV}{b:Bool}:oR true v b=some (.pure (.tup [v, .bool b])):=rfl
theorem Cl (ho:O 34=none){s:St}{p:AV}{m:MM}{y:kd}(h:MaR s p m y)(k:Int):
  Ca X O (.fn 34) [p, .int .i64 k] s fun z=>∃s',z= .ret (.bool (lkC m.last k).isSome) s'∧Am.Mod No s s':=by
 obtain⟨c0,c1,c2,c3,c4⟩:=h.cell
 have hp:=h.ptr
 subst hp
 obtain⟨cc,hcc,_⟩:=ej (cs:=[.int .i64 ((lkC m.last k).getD (0,0)).1, .int .i64 ((lkC m.last k).getD (0,0)).2]) (zs:=[.int .i64 0, .int .i64 0]) rfl
 refine bb ho GW rfl ?_
 unfold aD aD aD
 (repeat(first|refine uS ?_ |refine aa rfl ?_));refine ad (by simp(disch:=omega) only[uB,uT];exact rfl) ?_;(repeat(first|refine uS ?_ |refine aa rfl ?_))
 (repeat(first|refine uS ?_ |refine aa rfl ?_));refine ad (by simp(disch:=omega) only[uB,uT,bN,zu,Nat.zero_add,ah tu rfl qa h.hmb c4,h.look k,Mn,bQ pn rfl,AV.cells,wU hcc];exact rfl) ?_;(repeat(first|refine uS ?_ |refine aa rfl ?_))
 refine WL.st (fun s'=>Am.Mod No s s') (((Mod.refl _ s).new _).put _ (.inl (Nat.le_refl _)) (Nat.lt_succ_self _)) ?_
 rintro s1 hm
 refine uG ?_
 refine ai rfl ?_
 exact⟨s1,rfl,hm⟩
end
end Go.Proofs.Ytofohkdkpbigiaa
end
section
namespace Go.Proofs.Ytofohkdkpbigiaa
open Go.Am
set_option maxRecDepth 10000
set_option maxHeartbeats 1000000
set_option linter.unusedSimpArgs false
structure Vl where
 kind:Int
 n:Int
 f:Nat
 s:Str
def vl (v:Vl):List AV:=[.int .i64 v.kind, .int .i64 v.n, .int .u64 (v.f:Int), .str v.s]
structure Cmd where
 kind:Int
 client:Int
 seq:Int
 snap:Int
 keys:List Str
 ranges:List (Str×Str)
 writes:List (Str×Str×Bool)
 dl:Int
 after:Int
 held:Int
 text:Str
 code:Int
 rows:List (List Vl)
structure CL where
 k:AV
 r:AV
 w:AV
 x:AV
def bY (c:Cmd)(y:CL):List AV:=[.int .i64 c.kind, .int .i64 c.client, .int .i64 c.seq, .int .i64 c.snap,y.k,y.r,y.w, .int .i64 c.dl, .int .i64 c.after, .int .i64 c.held, .str c.text, .int .i64 c.code,y.x]
def wrt (w:Str×Str×Bool):List AV:=[.str w.1, .str w.2.1, .bool w.2.2]
def kr (k:Str):List AV:=[.str k]
structure jI (s:St)(c:Cmd)(y:CL):Prop where
 k:Sli s y.k 1 (c.keys.map kr)
 r:Sli s y.r 2 (c.ranges.map pr)
 w:Sli s y.w 3 (c.writes.map wrt)
 kl:c.keys.length≤100000
 rl:c.ranges.length≤100000
 wl:c.writes.length≤100000
 xs:∃a n k b,y.x= .slc a n k b
def CL.has (y:CL)(b:Nat):Prop:=blk y.k=some b∨blk y.r=some b∨blk y.w=some b
theorem jI.mod {B:Nat→Prop}{s t:St}{c:Cmd}{y:CL}(h:jI s c y)(hm:Am.Mod B s t)(hb:∀b,y.has b→¬B b):jI t c y:=
 ⟨h.k.mod hm fun b e=>hb b (.inl e),h.r.mod hm fun b e=>hb b (.inr (.inl e)),h.w.mod hm fun b e=>hb b (.inr (.inr e)),h.kl,h.rl,h.wl,h.xs⟩
theorem jI.no {s t:St}{c:Cmd}{y:CL}(h:jI s c y)(hm:Am.Mod No s t):jI t c y:=h.mod hm (fun _ _ h=>h)
theorem pR {v:AV}{s:St}{es:Nat}{rows:List (List AV)}(h:Sli s v es rows):v.one=true:=by
 obtain⟨a,c,x,rfl,_⟩:=h.ex;rfl
theorem DN {k:IntKind}{n:Int}:(AV.int k n).one=true:=rfl
theorem Es {v:Str}:(AV.str v).one=true:=rfl
theorem jI.one {s:St}{c:Cmd}{y:CL}(h:jI s c y):y.x.one=true:=by
 obtain⟨a,n,k,b,e⟩:=h.xs;rw[e];rfl
theorem wq {v:AV}{s:St}{es:Nat}{rows:List (List AV)}(h:Sli s v es rows):v.same v=true:=by
 obtain⟨a,c,x,rfl,_⟩:=h.ex;exact o7
theorem jI.same {s:St}{c:Cmd}{y:CL}(h:jI s c y):(AV.agg (bY c y)).same (.agg (bY c y))=true:=by
 obtain⟨a,n,k,b,e⟩:=h.xs
 have hx:y.x.same y.x=true:=by rw[e];exact o7
 rw[wx]
 simp only[bY,nR,pP,pb,sa,wq h.k,wq h.r,wq h.w,hx,Bool.and_self]
theorem jI.qI {s:St}{c:Cmd}{y:CL}(h:jI s c y):aX (bY c y)=true:=by
 simp only[bY,aX,DN,Es,pR h.k,pR h.r,pR h.w,h.one,Bool.and_self]
section
variable {O:bj}
theorem NG:X.fns.get 55=some Try.f55:=by kernel_rfl
theorem KN:X.fns.get 74=some Try.f74:=by kernel_rfl
theorem Km:X.fns.get 77=some Try.f77:=by kernel_rfl
theorem KB:X.fns.get 73=some Try.f73:=by kernel_rfl
theorem Mm:X.fns.get 83=some Try.f83:=by kernel_rfl
theorem Ko:X.fns.get 76=some Try.f76:=by kernel_rfl
theorem LJ:X.fns.get 84=some Try.f84:=by kernel_rfl
theorem jD {b off:Nat}:af X 40 (.ptr (some (b,off))) 0=some (.pure (.ptr (some (b,off)))):=by
 simp only[af,bZ,bh,List.getElem?_cons_zero,List.getElem?_cons_succ,ay,Nat.add_zero]
theorem gT {b off:Nat}:af X 40 (.ptr (some (b,off))) 1=some (.pure (.ptr (some (b,off+1)))):=by
 simp only[af,bZ,bh,List.getElem?_cons_zero,List.getElem?_cons_succ,ay,Nat.add_zero]
theorem lA {b off:Nat}:af X 40 (.ptr (some (b,off))) 2=some (.pure (.ptr (some (b,off+2)))):=by
 simp only[af,bZ,bh,List.getElem?_cons_zero,List.getElem?_cons_succ,ay,Nat.add_zero]
theorem me {b off:Nat}:af X 40 (.ptr (some (b,off))) 3=some (.pure (.ptr (some (b,off+3)))):=by
 simp only[af,bZ,bh,List.getElem?_cons_zero,List.getElem?_cons_succ,ay,Nat.add_zero]
theorem lh {b off:Nat}:af X 40 (.ptr (some (b,off))) 4=some (.pure (.ptr (some (b,off+4)))):=by
 simp only[af,bZ,bh,List.getElem?_cons_zero,List.getElem?_cons_succ,fV,Nat.add_zero]
theorem jY {b off:Nat}:af X 40 (.ptr (some (b,off))) 5=some (.pure (.ptr (some (b,off+5)))):=by
 simp only[af,bZ,bh,List.getElem?_cons_zero,List.getElem?_cons_succ,fY,Nat.add_zero]
theorem gS {b off:Nat}:af X 40 (.ptr (some (b,off))) 6=some (.pure (.ptr (some (b,off+6)))):=by
 simp only[af,bZ,bh,List.getElem?_cons_zero,List.getElem?_cons_succ,fW,Nat.add_zero]
theorem mA {b off:Nat}:af X 40 (.ptr (some (b,off))) 7=some (.pure (.ptr (some (b,off+7)))):=by
 simp only[af,bZ,bh,List.getElem?_cons_zero,List.getElem?_cons_succ,ay,Nat.add_zero]
theorem nC {b off:Nat}:af X 40 (.ptr (some (b,off))) 8=some (.pure (.ptr (some (b,off+8)))):=by
 simp only[af,bZ,bh,List.getElem?_cons_zero,List.getElem?_cons_succ,ay,Nat.add_zero]
theorem nX {b off:Nat}:af X 40 (.ptr (some (b,off))) 9=some (.pure (.ptr (some (b,off+9)))):=by
 simp only[af,bZ,bh,List.getElem?_cons_zero,List.getElem?_cons_succ,ay,Nat.add_zero]
theorem ie {b off:Nat}:af X 40 (.ptr (some (b,off))) 10=some (.pure (.ptr (some (b,off+10)))):=by
 simp only[af,bZ,bh,List.getElem?_cons_zero,List.getElem?_cons_succ,aF,Nat.add_zero]
theorem iV {b off:Nat}:af X 40 (.ptr (some (b,off))) 11=some (.pure (.ptr (some (b,off+11)))):=by
 simp only[af,bZ,bh,List.getElem?_cons_zero,List.getElem?_cons_succ,ay,Nat.add_zero]
theorem dI {b off:Nat}:af X 40 (.ptr (some (b,off))) 12=some (.pure (.ptr (some (b,off+12)))):=by
 simp only[af,bZ,bh,List.getElem?_cons_zero,List.getElem?_cons_succ,jt,Nat.add_zero]
theorem tW {b off:Nat}:af X 42 (.ptr (some (b,off))) 0=some (.pure (.ptr (some (b,off)))):=by
 simp only[af,qV,bh,List.getElem?_cons_zero,List.getElem?_cons_succ,aF,Nat.add_zero]
theorem tR {b off:Nat}:af X 42 (.ptr (some (b,off))) 1=some (.pure (.ptr (some (b,off+1)))):=by
 simp only[af,qV,bh,List.getElem?_cons_zero,List.getElem?_cons_succ,aF,Nat.add_zero]
theorem iD {b off:Nat}:af X 34 (.ptr (some (b,off))) 0=some (.pure (.ptr (some (b,off)))):=by
 simp only[af,m4,bh,List.getElem?_cons_zero,List.getElem?_cons_succ,aF,Nat.add_zero]
theorem kj {b off:Nat}:af X 34 (.ptr (some (b,off))) 1=some (.pure (.ptr (some (b,off+1)))):=by
 simp only[af,m4,bh,List.getElem?_cons_zero,List.getElem?_cons_succ,aF,Nat.add_zero]
theorem j7 {b off:Nat}:af X 34 (.ptr (some (b,off))) 2=some (.pure (.ptr (some (b,off+2)))):=by
 simp only[af,m4,bh,List.getElem?_cons_zero,List.getElem?_cons_succ,eC,Nat.add_zero]
theorem EZ (ho:O 83=none){s:St}{v b1 b2:AV}{f:FuncId}{qs:List Str}{P:Str→Bool}(hs:Sli s v 1 (qs.map kr))(hl:qs.length≤100000)
  (hf:∀s' q,Am.Mod No s s'→Ca X O (.fn f) [.str q,b1,b2] s' fun z=>∃s2,z= .ret (.bool (P q)) s2∧Am.Mod No s' s2):
  Ca X O (.fn 83) [v, .func (.func f) [] [b1,b2]] s fun z=>∃k s',z= .ret (.int .i64 k) s'∧decide (0≤k)=qs.any P∧Am.Mod No s s':=by
 obtain⟨a,c,x,rfl,_⟩:=hs.ex
 rw[List.length_map] at hs
 refine bb ho Mm rfl ?_
 unfold aD aD aD
 rw[List.length_map]
 refine uG ?_
 let I:Nat→Sl→St→Prop:=fun i L s'=>Am.Mod No s s'∧i≤qs.length∧(qs.take i).any P=false∧L=[(0, .slc a qs.length c x),(1, .func (.func f) [] [b1,b2]),(7, .int .i64 (qs.length:Int)),(8, .int .i64 (i:Int))]
 refine WL.less (M:=[(0, .slc a qs.length c x),(1, .func (.func f) [] [b1,b2]),(7, .int .i64 (qs.length:Int)),(8, .int .i64 ((0:Nat):Int))]) ?_ rfl
 refine aV I (fun i=>qs.length- i) ?_ qs.length 0 _ s (by simp) ⟨Mod.refl _ _,Nat.zero_le _,rfl,rfl⟩
 rintro i L s1 ⟨hm1,hi,hno,rfl⟩
 refine uG ?_
 refine uJ [0,1,7,8,9] ?_
 refine ae rfl rfl (fun hc2=>?_) (fun hc2=>?_)
 ·simp at hc2
  obtain⟨q,hq⟩:∃q,qs[i]? =some q:=⟨_,List.getElem?_eq_getElem (by omega)⟩
  obtain⟨b5,off5,c5,x5,t5,n5,e5,_,k2,k3⟩:=(hs.mod hm1 (fun _ _ h=>h)).at (i:=i) (r:=kr q) (by simp[hq])
  rw[List.length_map] at e5
  cases e5
  have k4:=eS k3
  repeat(first|refine uS ?_ |refine aa rfl ?_ |refine ad (by simp(disch:=omega) only[uB,uT,aQ dS aF,ah aE rfl aF k2 k4,Int.toNat_natCast];exact rfl) ?_)
  refine aj (hf s1 q hm1) ?_ ?_
  ·rintro z s2 ⟨s2',e,hm2⟩
   cases e
   have hm12:=hm1.trans hm2 (fun _ _ h=>h)
   refine uL ?_
   refine uH ?_
   refine uJ [0,1,5,7,8,16] ?_
   refine ae rfl rfl (fun hc3=>?_) (fun hc3=>?_)
   ·refine uG ?_
    refine ai rfl ?_
    refine⟨_,s2,rfl,?_,hm12⟩
    have:qs.any P=true:=List.any_eq_true.mpr ⟨q,List.mem_of_getElem? hq,hc3⟩
    rw[this]
    simp
   ·refine uG ?_
    refine aH (i+1) [(0, .slc (some (b5,off5,1)) qs.length c x),(1, .func (.func f) [] [b1,b2]),(7, .int .i64 (qs.length:Int)),(8, .int .i64 ((i+1:Nat):Int))] ⟨hm12,by omega,?_,by simp⟩ (by show qs.length- (i+1)<qs.length- i;omega) (by simp[aI,az])
    rw[List.take_add_one,hq,List.any_append,hno]
    simp[hc3]
  ·rintro z s' ⟨_,e,_⟩
   cases e
 ·simp at hc2
  have:i=qs.length:=by omega
  subst this
  refine uG ?_
  refine ai rfl ?_
  refine⟨_,s1,rfl,?_,hm1⟩
  rw[List.take_length] at hno
  rw[hno]
  rfl
theorem F8 (hc:O 73=none)(ho:O 83=none){s:St}{v b1 b2:AV}{f:FuncId}{qs:List Str}{P:Str→Bool}(hs:Sli s v 1 (qs.map kr))(hl:qs.length≤100000)
  (hf:∀s' q,Am.Mod No s s'→Ca X O (.fn f) [.str q,b1,b2] s' fun z=>∃s2,z= .ret (.bool (P q)) s2∧Am.Mod No s' s2):
  Ca X O (.fn 73) [v, .func (.func f) [] [b1,b2]] s fun z=>∃s',z= .ret (.bool (qs.any P)) s'∧Am.Mod No s s':=by
 refine bb hc KB rfl ?_
 unfold aD aD aD
 refine uG ?_
 refine aj (EZ ho hs hl hf) ?_ ?_
 ·rintro z s1 ⟨k,s1',e,h1,h2⟩
  cases e
  refine uL ?_
  refine uG ?_
  refine ai rfl ?_
  refine⟨s1,?_,h2⟩
  rw[←h1];rfl
 ·rintro z s' ⟨_,_,e,_⟩
  cases e
theorem Ff (ho:O 84=none){s:St}{v b1 b2:AV}{f:FuncId}{qs:List (Str×Str)}{P:Str×Str→Bool}(hs:Sli s v 2 (qs.map pr))(hl:qs.length≤100000)
  (hf:∀s' q,Am.Mod No s s'→Ca X O (.fn f) [.agg (pr q),b1,b2] s' fun z=>∃s2,z= .ret (.bool (P q)) s2∧Am.Mod No s' s2):
  Ca X O (.fn 84) [v, .func (.func f) [] [b1,b2]] s fun z=>∃k s',z= .ret (.int .i64 k) s'∧decide (0≤k)=qs.any P∧Am.Mod No s s':=by
 obtain⟨a,c,x,rfl,_⟩:=hs.ex
 rw[List.length_map] at hs
 refine bb ho LJ rfl ?_
 unfold aD aD aD
 rw[List.length_map]
 refine uG ?_
 let I:Nat→Sl→St→Prop:=fun i L s'=>Am.Mod No s s'∧i≤qs.length∧(qs.take i).any P=false∧L=[(0, .slc a qs.length c x),(1, .func (.func f) [] [b1,b2]),(7, .int .i64 (qs.length:Int)),(8, .int .i64 (i:Int))]
 refine WL.less (M:=[(0, .slc a qs.length c x),(1, .func (.func f) [] [b1,b2]),(7, .int .i64 (qs.length:Int)),(8, .int .i64 ((0:Nat):Int))]) ?_ rfl
 refine aV I (fun i=>qs.length- i) ?_ qs.length 0 _ s (by simp) ⟨Mod.refl _ _,Nat.zero_le _,rfl,rfl⟩
 rintro i L s1 ⟨hm1,hi,hno,rfl⟩
 refine uG ?_
 refine uJ [0,1,7,8,9] ?_
 refine ae rfl rfl (fun hc2=>?_) (fun hc2=>?_)
 ·simp at hc2
  obtain⟨q,hq⟩:∃q,qs[i]? =some q:=⟨_,List.getElem?_eq_getElem (by omega)⟩
  obtain⟨b5,off5,t5,n5,c5,x5,e5,k1,k2,k3,k4⟩:=ll (hs.mod hm1 (fun _ _ h=>h)) hq
  cases e5
  repeat(first|refine uS ?_ |refine aa rfl ?_ |refine ad (by simp(disch:=omega) only[uB,uT,aQ eP fQ,cE qV rfl fQ k1 k4,Int.toNat_natCast];exact rfl) ?_)
  refine aj (hf s1 q hm1) ?_ ?_
  ·rintro z s2 ⟨s2',e,hm2⟩
   cases e
   have hm12:=hm1.trans hm2 (fun _ _ h=>h)
   refine uL ?_
   refine uH ?_
   refine uJ [0,1,5,7,8,16] ?_
   refine ae rfl rfl (fun hc3=>?_) (fun hc3=>?_)
   ·refine uG ?_
    refine ai rfl ?_
    refine⟨_,s2,rfl,?_,hm12⟩
    have:qs.any P=true:=List.any_eq_true.mpr ⟨q,List.mem_of_getElem? hq,hc3⟩
    rw[this]
    simp
   ·refine uG ?_
    refine aH (i+1) [(0, .slc (some (b5,off5,2)) qs.length c x),(1, .func (.func f) [] [b1,b2]),(7, .int .i64 (qs.length:Int)),(8, .int .i64 ((i+1:Nat):Int))] ⟨hm12,by omega,?_,rfl⟩ (by show qs.length- (i+1)<qs.length- i;omega) (by simp[aI,az])
    rw[List.take_add_one,hq,List.any_append,hno]
    simp[hc3]
  ·rintro z s' ⟨_,e,_⟩
   cases e
 ·simp at hc2
  have:i=qs.length:=by omega
  subst this
  refine uG ?_
  refine ai rfl ?_
  refine⟨_,s1,rfl,?_,hm1⟩
  rw[List.take_length] at hno
  rw[hno]
  rfl
theorem FV (hc:O 76=none)(ho:O 84=none){s:St}{v b1 b2:AV}{f:FuncId}{qs:List (Str×Str)}{P:Str×Str→Bool}(hs:Sli s v 2 (qs.map pr))(hl:qs.length≤100000)
  (hf:∀s' q,Am.Mod No s s'→Ca X O (.fn f) [.agg (pr q),b1,b2] s' fun z=>∃s2,z= .ret (.bool (P q)) s2∧Am.Mod No s' s2):
  Ca X O (.fn 76) [v, .func (.func f) [] [b1,b2]] s fun z=>∃s',z= .ret (.bool (qs.any P)) s'∧Am.Mod No s s':=by
 refine bb hc Ko rfl ?_
 unfold aD aD aD
 refine uG ?_
 refine aj (Ff ho hs hl hf) ?_ ?_
 ·rintro z s1 ⟨k,s1',e,h1,h2⟩
  cases e
  refine uL ?_
  refine uG ?_
  refine ai rfl ?_
  refine⟨s1,?_,h2⟩
  rw[←h1];rfl
 ·rintro z s' ⟨_,_,e,_⟩
  cases e
theorem MaR.sp {s:St}{p:AV}{m:MM}{y:kd}(h:MaR s p m y):y.cs.get 2=some (.ptr (some (y.y.sb,0)))∧StR s y.G (.ptr (some (y.y.sb,0))) m.st y.y:=by
 have e:=h.st.ptr
 have c2:=h.cell.2.2.1
 have hs:=h.st
 rw[e] at c2 hs
 exact⟨c2,hs⟩
structure Ka (O:bj):Prop where
 since:Cv O
 chg:O 55=none
 chg1:O 74=none
 chg2:O 77=none
 hasS:O 73=none
 idxS:O 83=none
 hasR:O 76=none
 idxR:O 84=none
theorem FA (ho:Ka O){s:St}{p:AV}{m:MM}{y:kd}(h:MaR s p m y)(hk:SOK m.st){c:Cmd}{z:CL}{b1 b2:Nat}(h1:Bx s b1 [p])(h2:Bx s b2 (bY c z))(k:Str):
  Ca X O (.fn 74) [.str k, .ptr (some (b1,0)), .ptr (some (b2,0))] s fun r=>∃s',r= .ret (.bool (decide (c.snap<mu (lkA m.st.all k)))) s'∧Am.Mod No s s':=by
 obtain⟨c2,hst⟩:=h.sp
 have hp:=h.ptr
 subst hp
 refine bb ho.chg1 KN rfl ?_
 unfold aD aD aD aD
 refine uG ?_
 have hlen:=hk.len k
 refine aU [(0,none),(1,none),(2,none),(3,none),(4,none),(6,none),(7,none),(5,some [true,true,false,false,true,true,true]),(8,none),(9,some [false,false,false,false,false,false])] (by kernel_rfl) (by kernel_rfl) (by simp(disch:=omega) only[uB,uT,Nat.reduceEqDiff,↓reduceIte,uD,mask,aC,aB,h1.ld (i:=0) rfl mc rfl lu,bN,eJ,Nat.zero_add,ah du rfl dw h.hmb c2,me,h2.ld (i:=3) rfl aN rfl ay];exact rfl) ?_
 refine cg (ye ho.since.last hst k (by omega)) ?_ ?_
 ·rintro r s1 e
  cases e
  refine⟨_,(by simp(disch:=omega) only[uB,uT,Nat.reduceEqDiff,↓reduceIte,uE,aC,aB,h1.ld (i:=0) rfl mc rfl lu,bN,eJ,Nat.zero_add,ah du rfl dw h.hmb c2,me,h2.ld (i:=3) rfl aN rfl ay];exact rfl),?_⟩
  refine uH ?_
  refine ai rfl ?_
  exact⟨s,rfl,Mod.refl _ _⟩
 ·rintro r s' e
  cases e
end
end Go.Proofs.Ytofohkdkpbigiaa
end
section
namespace Go.Proofs.Ytofohkdkpbigiaa
open Go.Am
set_option maxRecDepth 10000
set_option maxHeartbeats 1000000
set_option linter.unusedSimpArgs false
def Bl (m:SM)(c:Cmd):Bool:=c.keys.any (fun k=>decide (c.snap<mu (lkA m.all k)))||c.ranges.any (fun r=>zU m r.1 r.2 c.snap)
def og (m:SM)(c:Cmd):Nat:=(c.writes.filter fun w=>(nE (lkA m.all w.1) 1099511627776).2|| !w.2.2).length
def vO (m:MM)(c:Cmd)(t:Int):Int:=
 if t≤c.snap then 1 else if 0<c.dl∧c.dl<t then 14 else if t<c.after then 15 else if Bl m.st c=true then 13 else if m.room- m.st.size<(og m.st c:Int) then 4 else 0
section
variable {O:bj}
theorem Mf:X.fns.get 35=some Try.f35:=by kernel_rfl
theorem Jr:X.fns.get 51=some Try.f51:=by kernel_rfl
theorem H6:X.fns.get 52=some Try.f52:=by kernel_rfl
theorem Ig:X.fns.get 53=some Try.f53:=by kernel_rfl
theorem Ju:X.fns.get 54=some Try.f54:=by kernel_rfl
theorem IU:X.fns.get 56=some Try.f56:=by kernel_rfl
theorem I5:X.fns.get 57=some Try.f57:=by kernel_rfl
theorem EY (ho:Ka O){s:St}{p:AV}{m:MM}{y:kd}(h:MaR s p m y)(hk:SOK m.st){c:Cmd}{z:CL}{b1 b2:Nat}(h1:Bx s b1 [p])(h2:Bx s b2 (bY c z))(q:Str×Str):
  Ca X O (.fn 77) [.agg (pr q), .ptr (some (b1,0)), .ptr (some (b2,0))] s fun r=>∃s',r= .ret (.bool (zU m.st q.1 q.2 c.snap)) s'∧Am.Mod No s s':=by
 have hp:=h.ptr
 subst hp
 refine bb ho.chg2 Km rfl ?_
 unfold aD aD aD aD
 (repeat(first|refine uS ?_ |refine aa rfl ?_));refine ad (by simp(disch:=omega) only[uB,uT,cX (cs:=pr q) rfl];exact rfl) ?_;(repeat(first|refine uS ?_ |refine aa rfl ?_))
 refine eE fun s1 hn1 hm1 hb=>?_
 have h':=h.no hm1
 obtain⟨c2,hst⟩:=h'.sp
 have h1':=h1.no hm1
 have h2':=h2.no hm1
 refine aU [(0,none),(1,none),(2,none),(3,none),(4,none),(5,none),(6,none),(7,none),(8,none),(9,none),(10,some [false,true,false,true,false,true,false,true,true,true]),(11,some [false,false,false,false,false,false])] (by kernel_rfl) (by kernel_rfl) (by simp(disch:=omega) only[uB,uT,Nat.reduceEqDiff,↓reduceIte,uD,mask,aC,aB,h1'.ld (i:=0) rfl mc rfl lu,bN,eJ,Nat.zero_add,ah du rfl dw h'.hmb c2,me,h2'.ld (i:=3) rfl aN rfl ay,tW,tR,hb.ld (i:=0) rfl aE rfl aF,hb.ld (i:=1) rfl aE rfl aF];exact rfl) ?_
 refine cg (CK ho.since hst hk) ?_ ?_
 ·rintro r s2 ⟨s2',e,hm2⟩
  cases e
  have h'':=h'.no hm2
  have h1'':=h1'.no hm2
  have h2'':=h2'.no hm2
  have hb':=hb.no hm2
  refine⟨_,(by simp(disch:=omega) only[uB,uT,Nat.reduceEqDiff,↓reduceIte,uE,aC,aB,h1''.ld (i:=0) rfl mc rfl lu,bN,eJ,Nat.zero_add,ah du rfl dw h''.hmb c2,me,h2''.ld (i:=3) rfl aN rfl ay,tW,tR,hb'.ld (i:=0) rfl aE rfl aF,hb'.ld (i:=1) rfl aE rfl aF];exact rfl),?_⟩
  refine uH ?_
  refine ai rfl ?_
  exact⟨s2,rfl,hm1.trans hm2 (fun _ _ h=>h)⟩
 ·rintro r s' ⟨_,e,_⟩
  cases e
theorem HG (ho:Ka O){s:St}{p:AV}{m:MM}{y:kd}(h:MaR s p m y)(hk:SOK m.st){c:Cmd}{z:CL}(hc:jI s c z):
  Ca X O (.fn 55) [p, .agg (bY c z)] s fun r=>∃s',r= .ret (.bool (Bl m.st c)) s'∧Am.Mod No s s':=by
 have hp:=h.ptr
 subst hp
 refine bb ho.chg NG rfl ?_
 unfold aD aD aD
 (repeat(first|refine uS ?_ |refine aa rfl ?_));refine ad (by simp(disch:=omega) only[uB,uT,cX (cs:=bY c z) hc.qI];exact rfl) ?_;(repeat(first|refine uS ?_ |refine aa rfl ?_))
 refine zj fun s1 hn1 hm1 h1 h2=>?_
 have h':=h.no hm1
 have hc':=hc.no hm1
 repeat(first|refine uS ?_ |refine aa rfl ?_ |refine ad (by simp(disch:=omega) only[uB,uT,lh,Nat.zero_add,h2.ld (i:=4) rfl dS rfl fV];exact rfl) ?_)
 refine aj (F8 ho.hasS ho.idxS (P:=fun k=>decide (c.snap<mu (lkA m.st.all k))) hc'.k hc.kl (fun s' q hm=>FA ho (h'.no hm) hk (h1.no hm) (h2.no hm) q)) ?_ ?_
 ·rintro r s2 ⟨s2',e,hm2⟩
  cases e
  have h1':=h1.no hm2
  have h2':=h2.no hm2
  have h'':=h'.no hm2
  have hc'':=hc'.no hm2
  cases hb:c.keys.any (fun k=>decide (c.snap<mu (lkA m.st.all k))) with
  |true=>
   refine bD (by simp(disch:=omega) only[uB,uT,aP];exact rfl) ?_
   refine uG ?_
   refine ai rfl ?_
   exact⟨s2,by unfold Bl;rw[hb];rfl,hm1.trans hm2 (fun _ _ h=>h)⟩
  |false=>
   refine bD (by simp(disch:=omega) only[uB,uT,jY,Nat.zero_add,h2'.ld (i:=5) rfl eP rfl fY];exact rfl) ?_
   refine aj (FV ho.hasR ho.idxR (P:=fun r=>zU m.st r.1 r.2 c.snap) hc''.r hc.rl (fun s' q hm=>EY ho (h''.no hm) hk (h1'.no hm) (h2'.no hm) q)) ?_ ?_
   ·rintro r s3 ⟨s3',e,hm3⟩
    cases e
    refine uL ?_
    refine uG ?_
    refine ai rfl ?_
    exact⟨s3,by unfold Bl;rw[hb];rfl,(hm1.trans hm2 (fun _ _ h=>h)).trans hm3 (fun _ _ h=>h)⟩
   ·rintro r s' ⟨_,e,_⟩
    cases e
 ·rintro r s' ⟨_,e,_⟩
  cases e
theorem CB (ho:O 51=none){s:St}{c:Cmd}{z:CL}{b1 b2:Nat}{t:Int}(h1:Bx s b1 (bY c z))(h2:Bx s b2 [.int .i64 t]):
  Ca X O (.fn 51) [.ptr (some (b1,0)), .ptr (some (b2,0))] s fun r=>∃s',r= .ret (.bool (decide (t≤c.snap))) s'∧Am.Mod No s s':=by
 refine bb ho Jr rfl ?_
 unfold aD aD aD
 repeat(first|refine uS ?_ |refine aa rfl ?_ |refine ad (by simp(disch:=omega) only[uB,uT,me,Nat.zero_add,h1.ld (i:=3) rfl aN rfl ay,h2.ld (i:=0) rfl aN rfl ay];exact rfl) ?_)
 refine ai rfl ?_
 exact⟨s,rfl,Mod.refl _ _⟩
theorem CQ (ho:O 52=none){s:St}{c:Cmd}{z:CL}{b1 b2:Nat}{t:Int}(h1:Bx s b1 (bY c z))(h2:Bx s b2 [.int .i64 t]):
  Ca X O (.fn 52) [.ptr (some (b1,0)), .ptr (some (b2,0))] s fun r=>∃s',r= .ret (.bool (decide (0<c.dl∧c.dl<t))) s'∧Am.Mod No s s':=by
 refine bb ho H6 rfl ?_
 unfold aD aD aD
 cases hb:decide (0<c.dl) with
 |true=>
  repeat(first|refine uS ?_ |refine aa rfl ?_ |refine ad (by simp(disch:=omega) only[uB,uT,mA,Nat.zero_add,h1.ld (i:=7) rfl aN rfl ay,h2.ld (i:=0) rfl aN rfl ay,hb];exact rfl) ?_)
  refine ai rfl ?_
  exact⟨s,by simp at hb;simp[hb,eV],Mod.refl _ _⟩
 |false=>
  repeat(first|refine uS ?_ |refine aa rfl ?_ |refine ad (by simp(disch:=omega) only[uB,uT,mA,Nat.zero_add,h1.ld (i:=7) rfl aN rfl ay,h2.ld (i:=0) rfl aN rfl ay,hb];exact rfl) ?_)
  refine ai rfl ?_
  exact⟨s,by simp at hb;simp[show ¬(0<c.dl) by omega,eV],Mod.refl _ _⟩
theorem Dq (ho:O 53=none){s:St}{c:Cmd}{z:CL}{b1 b2:Nat}{t:Int}(h1:Bx s b1 (bY c z))(h2:Bx s b2 [.int .i64 t]):
  Ca X O (.fn 53) [.ptr (some (b2,0)), .ptr (some (b1,0))] s fun r=>∃s',r= .ret (.bool (decide (t<c.after))) s'∧Am.Mod No s s':=by
 refine bb ho Ig rfl ?_
 unfold aD aD aD
 repeat(first|refine uS ?_ |refine aa rfl ?_ |refine ad (by simp(disch:=omega) only[uB,uT,nC,Nat.zero_add,h1.ld (i:=8) rfl aN rfl ay,h2.ld (i:=0) rfl aN rfl ay];exact rfl) ?_)
 refine ai rfl ?_
 exact⟨s,rfl,Mod.refl _ _⟩
structure Bp (O:bj):Prop where
 chg:Ka O
 get:Lc O
 size:O 58=none
 needs:O 57=none
 code:O 35=none
 code1:O 51=none
 code2:O 52=none
 code3:O 53=none
 code4:O 54=none
 code5:O 56=none
theorem Cd (ho:Bp O){s:St}{p:AV}{m:MM}{y:kd}(h:MaR s p m y)(hk:SOK m.st){c:Cmd}{z:CL}(hc:jI s c z){b1 b2:Nat}(h1:Bx s b1 [p])(h2:Bx s b2 (bY c z)):
  Ca X O (.fn 54) [.ptr (some (b1,0)), .ptr (some (b2,0))] s fun r=>∃s',r= .ret (.bool (Bl m.st c)) s'∧Am.Mod No s s':=by
 have hp:=h.ptr
 subst hp
 refine bb ho.code4 Ju rfl ?_
 unfold aD aD aD
 repeat(first|refine uS ?_ |refine aa rfl ?_ |refine ad (by simp(disch:=omega) only[uB,uT,h1.ld (i:=0) rfl mc rfl lu,h2.all bZ rfl cn];exact rfl) ?_)
 refine aj (HG ho.chg h hk hc) ?_ ?_
 ·rintro r s1 ⟨s1',e,hm1⟩
  cases e
  refine uL ?_
  refine uG ?_
  refine ai rfl ?_
  exact⟨s1,rfl,hm1⟩
 ·rintro r s' ⟨_,e,_⟩
  cases e
theorem qb {b m x:Nat}{c c':Tr AV}{w:Str×Str×Bool}{t0:Tr AB}{g:Tr (Tr AV)}{sh:List Nat}(hs:stL (wrt w) 0 c=some c'):cK X 34 (.ptr (some (b,0))) (.agg (wrt w)) {h:=t0.put b (.cells c m),nx:=x,gl:=g,sh:=sh}=some (.val (.tup []) {h:=(t0.put b (.cells c m)).put b (.cells c' m),nx:=x,gl:=g,sh:=sh}):=
 dC bT rfl rfl hs
theorem CO (ho:Bp O){s:St}{p:AV}{m:MM}{y:kd}(h:MaR s p m y)(hk:SOK m.st){c:Cmd}{z:CL}(hc:jI s c z):
  Ca X O (.fn 57) [p, .agg (bY c z)] s fun r=>∃s',r= .ret (.int .i64 (og m.st c)) s'∧Am.Mod No s s':=by
 have hp:=h.ptr
 subst hp
 obtain⟨a,cc,xx,ew,_⟩:=hc.w.ex
 rw[List.length_map] at ew
 refine bb ho.needs I5 rfl ?_
 unfold aD aD aD
 (repeat(first|refine uS ?_ |refine aa rfl ?_));refine ad (by simp(disch:=omega) only[uB,uT,cX (cs:=bY c z) hc.qI];exact rfl) ?_;(repeat(first|refine uS ?_ |refine aa rfl ?_))
 refine eE fun s1 hn1 hm1 h2=>?_
 have h':=h.no hm1
 have hc':=hc.no hm1
 have hw:=hc'.w
 have hwl:=hc.wl
 rw[ew] at hw
 have gw:aO X 35 (.ptr (some (s.nx,6))) s1=some (.old (.slc a c.writes.length cc xx)):=by
  rw[←ew];exact h2.ld (i:=6) rfl ct rfl fW
 repeat(first|refine uS ?_ |refine aa rfl ?_ |refine ad (by simp(disch:=omega) only[uB,uT,gS,Nat.zero_add,gw];exact rfl) ?_)
 unfold og
 generalize c.writes=qs at*
 let I:Nat→Sl→St→Prop:=fun i L s'=>Am.Mod No s1 s'∧i≤qs.length∧L=[(0, .ptr (some (y.mb,0))),(5, .int .i64 (((qs.take i).filter fun w=>(nE (lkA m.st.all w.1) 1099511627776).2|| !w.2.2).length:Int)),(11, .slc a qs.length cc xx),(12, .int .i64 (qs.length:Int)),(13, .int .i64 (i:Int))]
 refine WL.less (M:=[(0, .ptr (some (y.mb,0))),(5, .int .i64 ((0:Nat):Int)),(11, .slc a qs.length cc xx),(12, .int .i64 (qs.length:Int)),(13, .int .i64 ((0:Nat):Int))]) ?_ rfl
 refine aV I (fun i=>qs.length- i) ?_ qs.length 0 _ s1 (by simp) ⟨Mod.refl _ _,Nat.zero_le _,rfl⟩
 rintro i L s2 ⟨hm2,hi,rfl⟩
 refine uG ?_
 refine uJ [0,5,11,12,13,14] ?_
 refine ae rfl rfl (fun hc2=>?_) (fun hc2=>?_)
 ·simp at hc2
  obtain⟨q,hq⟩:∃q,qs[i]? =some q:=⟨_,List.getElem?_eq_getElem (by omega)⟩
  obtain⟨b5,off5,c5,x5,t5,n5,e5,_,k2,k3⟩:=(hw.mod hm2 (fun _ _ h=>h)).at (i:=i) (r:=wrt q) (by simp[hq])
  rw[List.length_map] at e5
  cases e5
  obtain⟨cc2,hcc,_⟩:=ej (cs:=wrt q) (zs:=[.str ⟨0,0⟩, .str ⟨0,0⟩, .bool false]) rfl
  have hfl:=List.length_filter_le (fun w:Str×Str×Bool=>(nE (lkA m.st.all w.1) 1099511627776).2|| !w.2.2) (qs.take i)
  have htl:(qs.take i).length≤i:=by rw[List.length_take];exact Nat.min_le_left _ _
  generalize hfil:((qs.take i).filter fun w=>(nE (lkA m.st.all w.1) 1099511627776).2|| !w.2.2).length=k at*
  (repeat(first|refine uS ?_ |refine aa rfl ?_));refine ad (by simp(disch:=omega) only[uB,uT,aQ ct bT,cE m4 rfl bT k2 k3,Int.toNat_natCast,bQ mK rfl,AV.cells,qb hcc];exact rfl) ?_;(repeat(first|refine uS ?_ |refine aa rfl ?_))
  refine dy hcc fun s3 hn3 hm3 g3=>?_
  have hm13:Am.Mod No s1 s3:=hm2.trans hm3 (fun _ _ h=>h)
  have h3:=h'.no hm13
  obtain⟨c2,hst⟩:=h3.sp
  refine aU [(0,none),(1,none),(2,none),(3,none),(4,none),(5,none),(6,some [false,true,false,true,true,true]),(7,none),(8,none),(9,none),(10,some [true,false,false,false,false,false,false]),(11,some [false])] (by kernel_rfl) (by kernel_rfl) (by simp(disch:=omega) only[uB,uT,Nat.reduceEqDiff,↓reduceIte,uD,mask,aC,aB,bN,eJ,Nat.zero_add,ah du rfl dw h3.hmb c2,iD,g3.ld (i:=0) rfl aE rfl aF];exact rfl) ?_
  refine cg (vM ho.get hst hk (t:=1099511627776) (k:=q.1)) ?_ ?_
  ·rintro r s4 ⟨s4',e,hm4⟩
   cases e
   have hm14:=hm13.trans hm4 (fun _ _ h=>h)
   have g4:=g3.no hm4
   have h4:=h3.no hm4
   generalize hv:nE (lkA m.st.all q.1) 1099511627776=v at*
   have htk:(List.filter (fun w:Str×Str×Bool=>(nE (lkA m.st.all w.1) 1099511627776).2|| !w.2.2) (qs.take (i+1))).length=if(v.2|| !q.2.2)=true then k+1 else k:=by
    rw[List.take_add_one,hq,List.filter_append,List.length_append,hfil]
    simp only[Option.toList,List.filter_cons,List.filter_nil,hv]
    cases(v.2|| !q.2.2)<;>rfl
   refine⟨_,(by simp(disch:=omega) only[uB,uT,Nat.reduceEqDiff,↓reduceIte,uE,aC,aB,bN,eJ,Nat.zero_add,ah du rfl dw h4.hmb c2,iD,g4.ld (i:=0) rfl aE rfl aF];exact rfl),?_⟩
   cases hv2:v.2 with
   |true=>
    rw[hv2] at htk
    repeat(first|refine uS ?_ |refine aa rfl ?_ |refine ad (by simp(disch:=omega) only[uB,uT,hv2,aP];exact rfl) ?_)
    refine uJ [0,5,11,12,13,32] ?_
    refine ae rfl rfl (fun hc3=>?_) (fun hc3=>?_)
    ·refine uG ?_
     exact aH (i+1) [(0, .ptr (some (y.mb,0))),(5, .int .i64 ((k+1:Nat):Int)),(11, .slc (some (b5,off5,3)) qs.length cc xx),(12, .int .i64 (qs.length:Int)),(13, .int .i64 ((i+1:Nat):Int))] ⟨hm14,by omega,by rw[htk];rfl⟩ (by show qs.length- (i+1)<qs.length- i;omega) (by simp[aI,az])
    ·cases hc3
   |false=>
    rw[hv2] at htk
    repeat(first|refine uS ?_ |refine aa rfl ?_ |refine ad (by simp(disch:=omega) only[uB,uT,hv2,j7,Nat.zero_add,g4.ld (i:=2) rfl mg rfl eC];exact rfl) ?_)
    refine uJ [0,5,11,12,13,32] ?_
    refine ae rfl rfl (fun hc3=>?_) (fun hc3=>?_)
    ·refine uG ?_
     exact aH (i+1) [(0, .ptr (some (y.mb,0))),(5, .int .i64 ((k+1:Nat):Int)),(11, .slc (some (b5,off5,3)) qs.length cc xx),(12, .int .i64 (qs.length:Int)),(13, .int .i64 ((i+1:Nat):Int))] ⟨hm14,by omega,by rw[htk,hc3];rfl⟩ (by show qs.length- (i+1)<qs.length- i;omega) (by simp[aI,az])
    ·refine uG ?_
     exact aH (i+1) [(0, .ptr (some (y.mb,0))),(5, .int .i64 ((k:Nat):Int)),(11, .slc (some (b5,off5,3)) qs.length cc xx),(12, .int .i64 (qs.length:Int)),(13, .int .i64 ((i+1:Nat):Int))] ⟨hm14,by omega,by rw[htk,hc3];rfl⟩ (by show qs.length- (i+1)<qs.length- i;omega) (by simp[aI,az])
  ·rintro r s' ⟨_,e,_⟩
   cases e
 ·simp at hc2
  have:i=qs.length:=by omega
  subst this
  refine uG ?_
  refine ai rfl ?_
  rw[List.take_length]
  exact⟨s2,rfl,hm1.trans hm2 (fun _ _ h=>h)⟩
end
end Go.Proofs.Ytofohkdkpbigiaa
end
