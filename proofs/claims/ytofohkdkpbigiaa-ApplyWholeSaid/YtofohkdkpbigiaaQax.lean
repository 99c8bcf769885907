/-
  A part of the texts.
-/
import Derived.Test.YtofohkdkpbigiaaQaw
section
namespace Go.Proofs.Ytofohkdkpbigiaa
open Go.Am
set_option maxRecDepth 10000
set_option maxHeartbeats 1000000
set_option linter.unusedSimpArgs false
section
variable {O:bj}
theorem fR (k:Str):decide ((1000:Int)<(k.len:Int))= !okL k:=by
 unfold okL
 rw[Bool.eq_iff_iff];simp;omega
theorem C6 (ho:yt O){s:St}{v:AV}{ks:List Str}(hs:Sli s v 1 (ks.map kr))(hl:ks.length≤100000):
  Ca X O (.fn 22) [v] s fun z=>z= .ret (.bool (om ks)) s:=by
 obtain⟨a,c,x,rfl,_⟩:=hs.ex
 rw[List.length_map] at hs
 refine bb ho.rises Ib rfl ?_
 unfold aD aD
 rw[List.length_map]
 unfold om
 refine uG ?_
 let I:Nat→Sl→St→Prop:=fun i L s'=>s=s'∧i≤ks.length∧(List.range i).all (okK ks)=true∧L=[(0, .slc a ks.length c x),(3, .int .i64 (i:Int))]
 refine WL.less (M:=[(0, .slc a ks.length c x),(3, .int .i64 ((0:Nat):Int))]) ?_ rfl
 refine aV I (fun i=>ks.length- i) ?_ ks.length 0 _ s (by simp) ⟨rfl,Nat.zero_le _,rfl,rfl⟩
 rintro i L _ ⟨rfl,hi,hall,rfl⟩
 refine uG ?_
 refine uJ [0,3,7] ?_
 refine ae rfl rfl (fun hc2=>?_) (fun hc2=>?_)
 ·simp at hc2
  obtain⟨q,hq⟩:∃q,ks[i]? =some q:=⟨_,List.getElem?_eq_getElem (by omega)⟩
  obtain⟨b5,off5,c5,x5,t5,n5,e5,_,k2,k3⟩:=hs.at (i:=i) (r:=kr q) (by simp[hq])
  rw[List.length_map] at e5
  cases e5
  have k4:=eS k3
  have hgd:ks.getD i bu=q:=jO hq
  have fl:okK ks i=false→∀ {L},lk L 2=some (.bool false)→Fin (tz X Try.f22 fun z=>z= .ret (.bool ((List.range ks.length).all (okK ks))) s) .ret L [] s:=fun h L hL=>by
   refine ai (l:=[.bool false]) (by show iN X L s [.tmp 2]=_;simp only[iN,rG,hL]) ?_
   rw[im (by omega) h];rfl
  have nx:okK ks i=true→∀ {L},aI [0,3] L=[(0, .slc (some (b5,off5,1)) ks.length c x),(3, .int .i64 ((i+1:Nat):Int))]→∀ {Q},Fin (oO I (fun i=>ks.length- i) [] Q i) .norm L [] s:=fun h L hL Q=>
   aH (i+1) [(0, .slc (some (b5,off5,1)) ks.length c x),(3, .int .i64 ((i+1:Nat):Int))] ⟨rfl,by omega,by rw[jm,hall,h];rfl,rfl⟩ (by show ks.length- (i+1)<ks.length- i;omega) hL
  have ld1:=ah (X:=X) aE rfl aF k2 k4
  refine uH ?_
  cases d1:okL q with
  |false=>
   refine aU [(0,none),(1,none),(2,none),(3,none),(4,none),(5,none),(6,none),(7,none),(8,none),(9,none),(10,none),(11,none),(12,none),(13,none),(14,none),(15,none),(16,none),(17,none),(18,none),(19,none),(20,none),(21,none)] (by kernel_rfl) (by kernel_rfl) (by simp(disch:=omega) only[uB,uT,Nat.reduceEqDiff,↓reduceIte,uD,mask,aC,aB,aQ dS aF,ld1,Int.toNat_natCast,aJ aE,fR,d1,Bool.not_false,aP];exact rfl) ?_
   refine uH ?_
   refine uJ [0,3,31] ?_
   refine ae rfl rfl (fun hc3=>?_) (fun hc3=>?_)
   ·refine uG ?_
    exact fl (by unfold okK;rw[hgd,d1];rfl) rfl
   ·cases hc3
  |true=>
   cases d2:decide ((0:Int)<(i:Int)) with
   |false=>
    have hi0:i=0:=by simpa using d2
    refine aU [(0,none),(1,none),(2,none),(3,none),(4,none),(5,none),(6,none),(7,none),(8,none),(9,none),(10,none),(11,none),(12,none),(13,none),(14,none),(15,none),(16,none),(17,none),(18,none),(19,none),(20,none),(21,none)] (by kernel_rfl) (by kernel_rfl) (by simp(disch:=omega) only[uB,uT,Nat.reduceEqDiff,↓reduceIte,uD,mask,aC,aB,aQ dS aF,ld1,Int.toNat_natCast,aJ aE,fR,d1,d2,Bool.not_true,aP];exact rfl) ?_
    refine uH ?_
    refine uJ [0,3,31] ?_
    refine ae rfl rfl (fun hc3=>?_) (fun hc3=>?_)
    ·cases hc3
    ·refine uG ?_
     exact nx (by unfold okK;rw[hgd,d1,hi0];rfl) (by simp[aI,az])
   |true=>
    have hi0:0<i:=by simpa using d2
    obtain⟨p,hp⟩:∃p,ks[i- 1]? =some p:=⟨_,List.getElem?_eq_getElem (by omega)⟩
    obtain⟨b6,off6,c6,x6,t6,n6,e6,l6,j2,j3⟩:=hs.at (i:=i- 1) (r:=kr p) (by simp[hp])
    rw[List.length_map] at e6
    cases e6
    have j4:=eS j3
    have hgp:ks.getD (i- 1) bu=p:=jO hp
    have hi1:(i:Int)- 1=((i- 1:Nat):Int):=by omega
    have ld2:=ah (X:=X) aE rfl aF j2 j4
    refine aU [(0,none),(1,none),(2,none),(3,none),(4,none),(5,none),(6,none),(7,none),(8,none),(9,none),(10,none),(11,none),(12,none),(13,none),(14,none),(15,none),(16,none),(17,none),(18,none),(19,none),(20,none),(21,none)] (by kernel_rfl) (by kernel_rfl) (by simp(disch:=omega) only[uB,uT,Nat.reduceEqDiff,↓reduceIte,uD,mask,aC,aB,aQ dS aF,ld1,ld2,Int.toNat_natCast,aJ aE,fR,d1,d2,Bool.not_true,aP,hi1];exact rfl) ?_
    refine uH ?_
    refine uJ [0,3,31] ?_
    refine ae rfl rfl (fun hc3=>?_) (fun hc3=>?_)
    ·refine uG ?_
     rw[pw] at hc3
     exact fl (by unfold okK;rw[hgd,hgp,d1];simp at hc3;simp[hc3];omega) rfl
    ·refine uG ?_
     rw[pw] at hc3
     exact nx (by unfold okK;rw[hgd,hgp,d1];simp at hc3;simp[hc3]) (by simp[aI,az])
 ·simp at hc2
  have:i=ks.length:=by omega
  subst this
  refine uG ?_
  refine ai rfl ?_
  rw[hall];rfl
theorem zm (ho:yt O){s:St}{v:AV}{ws:List (Str×Str×Bool)}(hs:Sli s v 3 (ws.map wrt))(hl:ws.length≤100000):
  Ca X O (.fn 23) [v] s fun z=>z= .ret (.bool (pf ws)) s:=by
 obtain⟨a,c,x,rfl,_⟩:=hs.ex
 rw[List.length_map] at hs
 refine bb ho.writes Cp rfl ?_
 unfold aD aD
 rw[List.length_map]
 unfold pf
 refine uG ?_
 let I:Nat→Sl→St→Prop:=fun i L s'=>s=s'∧i≤ws.length∧(List.range i).all (okW ws)=true∧L=[(0, .slc a ws.length c x),(3, .int .i64 (i:Int))]
 refine WL.less (M:=[(0, .slc a ws.length c x),(3, .int .i64 ((0:Nat):Int))]) ?_ rfl
 refine aV I (fun i=>ws.length- i) ?_ ws.length 0 _ s (by simp) ⟨rfl,Nat.zero_le _,rfl,rfl⟩
 rintro i L _ ⟨rfl,hi,hall,rfl⟩
 refine uG ?_
 refine uJ [0,3,7] ?_
 refine ae rfl rfl (fun hc2=>?_) (fun hc2=>?_)
 ·simp at hc2
  obtain⟨q,hq⟩:∃q,ws[i]? =some q:=⟨_,List.getElem?_eq_getElem (by omega)⟩
  obtain⟨b5,off5,c5,x5,t5,n5,e5,_,k2,k3⟩:=hs.at (i:=i) (r:=wrt q) (by simp[hq])
  rw[List.length_map] at e5
  cases e5
  have k4:=(aR.mp k3).2
  have k40:t5.get (off5+i*3)=some (.str q.1):=by simpa using k4 0 _ rfl
  have k41:t5.get (off5+i*3+1)=some (.str q.2.1):=k4 1 _ rfl
  have k42:t5.get (off5+i*3+2)=some (.bool q.2.2):=k4 2 _ rfl
  have hgd:ws.getD i dW=q:=jO hq
  have fl:okW ws i=false→∀ {L},lk L 2=some (.bool false)→Fin (tz X Try.f23 fun z=>z= .ret (.bool ((List.range ws.length).all (okW ws))) s) .ret L [] s:=fun h L hL=>by
   refine ai (l:=[.bool false]) (by show iN X L s [.tmp 2]=_;simp only[iN,rG,hL]) ?_
   rw[im (by omega) h];rfl
  have nx:okW ws i=true→∀ {L},aI [0,3] L=[(0, .slc (some (b5,off5,3)) ws.length c x),(3, .int .i64 ((i+1:Nat):Int))]→∀ {Q},Fin (oO I (fun i=>ws.length- i) [] Q i) .norm L [] s:=fun h L hL Q=>
   aH (i+1) [(0, .slc (some (b5,off5,3)) ws.length c x),(3, .int .i64 ((i+1:Nat):Int))] ⟨rfl,by omega,by rw[jm,hall,h];rfl,rfl⟩ (by show ws.length- (i+1)<ws.length- i;omega) hL
  have lk4:=ah (X:=X) aE rfl aF k2 k40
  have lv4:=ah (X:=X) aE rfl aF k2 k41
  have ld4:=ah (X:=X) mg rfl eC k2 k42
  have hk:okW ws i=((okL q.1&&decide (q.2.1.len≤10000))&& ((!q.2.2||q.2.1.beq bu)&& (decide (i=0)|| (ws.getD (i- 1) dW).1.lt q.1))):=by unfold okW;rw[hgd]
  refine uH ?_
  cases d1:okL q.1 with
  |false=>
   refine aU [(0,none),(1,none),(2,none),(3,none),(4,none),(5,none),(6,none),(7,none),(8,none),(9,none),(10,none),(11,none),(12,none),(13,none),(14,none),(15,none),(16,none),(17,none),(18,none),(19,none),(20,none),(21,none),(22,none),(23,none),(24,none),(25,none),(26,none),(27,none),(28,none),(29,none),(30,none),(31,none),(32,none),(33,none),(34,none),(35,none),(36,none),(37,none),(38,none),(39,none),(40,none),(41,none),(42,none),(43,none),(44,none),(45,none),(46,none),(47,none),(48,none)] (by kernel_rfl) (by kernel_rfl) (by simp(disch:=omega) only[uB,uT,Nat.reduceEqDiff,↓reduceIte,uD,mask,aC,aB,iD,kj,j7,Nat.zero_add,aQ ct bT,Int.toNat_natCast,lk4,lv4,ld4,aP,Bool.not_true,Bool.not_false,aJ aE,bk,fR,d1];exact rfl) ?_
   refine uH ?_
   refine uJ [0,3,58] ?_
   refine ae rfl rfl (fun hc3=>?_) (fun hc3=>?_)
   ·refine uG ?_
    exact fl (by rw[hk];simp only[d1,Bool.false_and,Bool.and_false,Bool.true_and,Bool.and_true,Bool.not_true,Bool.false_or]) rfl
   ·cases hc3
  |true=>
   cases d2:decide ((10000:Int)<(q.2.1.len:Int)) with
   |true=>
    have d2':decide (q.2.1.len≤10000)=false:=by simp at d2 ⊢;omega
    refine aU [(0,none),(1,none),(2,none),(3,none),(4,none),(5,none),(6,none),(7,none),(8,none),(9,none),(10,none),(11,none),(12,none),(13,none),(14,none),(15,none),(16,none),(17,none),(18,none),(19,none),(20,none),(21,none),(22,none),(23,none),(24,none),(25,none),(26,none),(27,none),(28,none),(29,none),(30,none),(31,none),(32,none),(33,none),(34,none),(35,none),(36,none),(37,none),(38,none),(39,none),(40,none),(41,none),(42,none),(43,none),(44,none),(45,none),(46,none),(47,none),(48,none)] (by kernel_rfl) (by kernel_rfl) (by simp(disch:=omega) only[uB,uT,Nat.reduceEqDiff,↓reduceIte,uD,mask,aC,aB,iD,kj,j7,Nat.zero_add,aQ ct bT,Int.toNat_natCast,lk4,lv4,ld4,aP,Bool.not_true,Bool.not_false,aJ aE,bk,fR,d1,d2];exact rfl) ?_
    refine uH ?_
    refine uJ [0,3,58] ?_
    refine ae rfl rfl (fun hc3=>?_) (fun hc3=>?_)
    ·refine uG ?_
     exact fl (by rw[hk];simp only[d1,d2',Bool.false_and,Bool.and_false,Bool.true_and,Bool.and_true,Bool.not_true,Bool.false_or]) rfl
    ·cases hc3
   |false=>
    have d2':decide (q.2.1.len≤10000)=true:=by simp at d2 ⊢;omega
    cases d3:q.2.2 with
    |true=>
     rw[d3] at ld4
     cases d6:q.2.1.beq bu with
     |false=>
      refine aU [(0,none),(1,none),(2,none),(3,none),(4,none),(5,none),(6,none),(7,none),(8,none),(9,none),(10,none),(11,none),(12,none),(13,none),(14,none),(15,none),(16,none),(17,none),(18,none),(19,none),(20,none),(21,none),(22,none),(23,none),(24,none),(25,none),(26,none),(27,none),(28,none),(29,none),(30,none),(31,none),(32,none),(33,none),(34,none),(35,none),(36,none),(37,none),(38,none),(39,none),(40,none),(41,none),(42,none),(43,none),(44,none),(45,none),(46,none),(47,none),(48,none)] (by kernel_rfl) (by kernel_rfl) (by simp(disch:=omega) only[uB,uT,Nat.reduceEqDiff,↓reduceIte,uD,mask,aC,aB,iD,kj,j7,Nat.zero_add,aQ ct bT,Int.toNat_natCast,lk4,lv4,ld4,aP,Bool.not_true,Bool.not_false,aJ aE,bk,fR,d1,d2,d6];exact rfl) ?_
      refine uH ?_
      refine uJ [0,3,58] ?_
      refine ae rfl rfl (fun hc3=>?_) (fun hc3=>?_)
      ·refine uG ?_
       exact fl (by rw[hk];simp only[d1,d2',d3,d6,Bool.false_and,Bool.and_false,Bool.true_and,Bool.and_true,Bool.not_true,Bool.false_or]) rfl
      ·cases hc3
     |true=>
      cases d4:decide ((0:Int)<(i:Int)) with
      |false=>
       have hi0:decide (i=0)=true:=by simp at d4;simp;omega
       refine aU [(0,none),(1,none),(2,none),(3,none),(4,none),(5,none),(6,none),(7,none),(8,none),(9,none),(10,none),(11,none),(12,none),(13,none),(14,none),(15,none),(16,none),(17,none),(18,none),(19,none),(20,none),(21,none),(22,none),(23,none),(24,none),(25,none),(26,none),(27,none),(28,none),(29,none),(30,none),(31,none),(32,none),(33,none),(34,none),(35,none),(36,none),(37,none),(38,none),(39,none),(40,none),(41,none),(42,none),(43,none),(44,none),(45,none),(46,none),(47,none),(48,none)] (by kernel_rfl) (by kernel_rfl) (by simp(disch:=omega) only[uB,uT,Nat.reduceEqDiff,↓reduceIte,uD,mask,aC,aB,iD,kj,j7,Nat.zero_add,aQ ct bT,Int.toNat_natCast,lk4,lv4,ld4,aP,Bool.not_true,Bool.not_false,aJ aE,bk,fR,d1,d2,d6,d4];exact rfl) ?_
       refine uH ?_
       refine uJ [0,3,58] ?_
       refine ae rfl rfl (fun hc3=>?_) (fun hc3=>?_)
       ·cases hc3
       ·refine uG ?_
        exact nx (by rw[hk];simp only[d1,d2',d3,d6,hi0,Bool.true_and,Bool.and_true,Bool.not_false,Bool.true_or,Bool.or_true,Bool.false_or]) (by simp[aI,az])
      |true=>
       have hi0:decide (i=0)=false:=by simp at d4;simp;omega
       have hi2:0<i:=by simpa using d4
       obtain⟨p,hp⟩:∃p,ws[i- 1]? =some p:=⟨_,List.getElem?_eq_getElem (by omega)⟩
       obtain⟨b6,off6,c6,x6,t6,n6,e6,l6,j2,j3⟩:=hs.at (i:=i- 1) (r:=wrt p) (by simp[hp])
       rw[List.length_map] at e6
       cases e6
       have j4:t6.get (off5+(i- 1)*3)=some (.str p.1):=by have:=(aR.mp j3).2 0 _ rfl;simpa using this
       have ldp:=ah (X:=X) aE rfl aF j2 j4
       have hgp:ws.getD (i- 1) dW=p:=jO hp
       have hi1:(i:Int)- 1=((i- 1:Nat):Int):=by omega
       have hln:=pw (a:=q.1) (b:=p.1)
       cases d5:p.1.lt q.1 with
       |true=>
        rw[d5] at hln
        refine aU [(0,none),(1,none),(2,none),(3,none),(4,none),(5,none),(6,none),(7,none),(8,none),(9,none),(10,none),(11,none),(12,none),(13,none),(14,none),(15,none),(16,none),(17,none),(18,none),(19,none),(20,none),(21,none),(22,none),(23,none),(24,none),(25,none),(26,none),(27,none),(28,none),(29,none),(30,none),(31,none),(32,none),(33,none),(34,none),(35,none),(36,none),(37,none),(38,none),(39,none),(40,none),(41,none),(42,none),(43,none),(44,none),(45,none),(46,none),(47,none),(48,none)] (by kernel_rfl) (by kernel_rfl) (by simp(disch:=omega) only[uB,uT,Nat.reduceEqDiff,↓reduceIte,uD,mask,aC,aB,iD,kj,j7,Nat.zero_add,aQ ct bT,Int.toNat_natCast,lk4,lv4,ld4,aP,Bool.not_true,Bool.not_false,aJ aE,bk,fR,d1,d2,d6,d4,hi1,ldp,hln];exact rfl) ?_
        refine uH ?_
        refine uJ [0,3,58] ?_
        refine ae rfl rfl (fun hc3=>?_) (fun hc3=>?_)
        ·cases hc3
        ·refine uG ?_
         exact nx (by rw[hk];simp only[d1,d2',d3,d6,hi0,hgp,d5,Bool.true_and,Bool.and_true,Bool.not_false,Bool.true_or,Bool.or_true,Bool.false_or]) (by simp[aI,az])
       |false=>
        rw[d5] at hln
        refine aU [(0,none),(1,none),(2,none),(3,none),(4,none),(5,none),(6,none),(7,none),(8,none),(9,none),(10,none),(11,none),(12,none),(13,none),(14,none),(15,none),(16,none),(17,none),(18,none),(19,none),(20,none),(21,none),(22,none),(23,none),(24,none),(25,none),(26,none),(27,none),(28,none),(29,none),(30,none),(31,none),(32,none),(33,none),(34,none),(35,none),(36,none),(37,none),(38,none),(39,none),(40,none),(41,none),(42,none),(43,none),(44,none),(45,none),(46,none),(47,none),(48,none)] (by kernel_rfl) (by kernel_rfl) (by simp(disch:=omega) only[uB,uT,Nat.reduceEqDiff,↓reduceIte,uD,mask,aC,aB,iD,kj,j7,Nat.zero_add,aQ ct bT,Int.toNat_natCast,lk4,lv4,ld4,aP,Bool.not_true,Bool.not_false,aJ aE,bk,fR,d1,d2,d6,d4,hi1,ldp,hln];exact rfl) ?_
        refine uH ?_
        refine uJ [0,3,58] ?_
        refine ae rfl rfl (fun hc3=>?_) (fun hc3=>?_)
        ·refine uG ?_
         exact fl (by rw[hk];simp only[d1,d2',d3,d6,hi0,hgp,d5,Bool.false_and,Bool.and_false,Bool.true_and,Bool.and_true,Bool.not_true,Bool.false_or]) rfl
        ·cases hc3
    |false=>
     rw[d3] at ld4
     cases d4:decide ((0:Int)<(i:Int)) with
     |false=>
      have hi0:decide (i=0)=true:=by simp at d4;simp;omega
      refine aU [(0,none),(1,none),(2,none),(3,none),(4,none),(5,none),(6,none),(7,none),(8,none),(9,none),(10,none),(11,none),(12,none),(13,none),(14,none),(15,none),(16,none),(17,none),(18,none),(19,none),(20,none),(21,none),(22,none),(23,none),(24,none),(25,none),(26,none),(27,none),(28,none),(29,none),(30,none),(31,none),(32,none),(33,none),(34,none),(35,none),(36,none),(37,none),(38,none),(39,none),(40,none),(41,none),(42,none),(43,none),(44,none),(45,none),(46,none),(47,none),(48,none)] (by kernel_rfl) (by kernel_rfl) (by simp(disch:=omega) only[uB,uT,Nat.reduceEqDiff,↓reduceIte,uD,mask,aC,aB,iD,kj,j7,Nat.zero_add,aQ ct bT,Int.toNat_natCast,lk4,lv4,ld4,aP,Bool.not_true,Bool.not_false,aJ aE,bk,fR,d1,d2,d4];exact rfl) ?_
      refine uH ?_
      refine uJ [0,3,58] ?_
      refine ae rfl rfl (fun hc3=>?_) (fun hc3=>?_)
      ·cases hc3
      ·refine uG ?_
       exact nx (by rw[hk];simp only[d1,d2',d3,hi0,Bool.true_and,Bool.and_true,Bool.not_false,Bool.true_or,Bool.or_true,Bool.false_or]) (by simp[aI,az])
     |true=>
      have hi0:decide (i=0)=false:=by simp at d4;simp;omega
      have hi2:0<i:=by simpa using d4
      obtain⟨p,hp⟩:∃p,ws[i- 1]? =some p:=⟨_,List.getElem?_eq_getElem (by omega)⟩
      obtain⟨b6,off6,c6,x6,t6,n6,e6,l6,j2,j3⟩:=hs.at (i:=i- 1) (r:=wrt p) (by simp[hp])
      rw[List.length_map] at e6
      cases e6
      have j4:t6.get (off5+(i- 1)*3)=some (.str p.1):=by have:=(aR.mp j3).2 0 _ rfl;simpa using this
      have ldp:=ah (X:=X) aE rfl aF j2 j4
      have hgp:ws.getD (i- 1) dW=p:=jO hp
      have hi1:(i:Int)- 1=((i- 1:Nat):Int):=by omega
      have hln:=pw (a:=q.1) (b:=p.1)
      cases d5:p.1.lt q.1 with
      |true=>
       rw[d5] at hln
       refine aU [(0,none),(1,none),(2,none),(3,none),(4,none),(5,none),(6,none),(7,none),(8,none),(9,none),(10,none),(11,none),(12,none),(13,none),(14,none),(15,none),(16,none),(17,none),(18,none),(19,none),(20,none),(21,none),(22,none),(23,none),(24,none),(25,none),(26,none),(27,none),(28,none),(29,none),(30,none),(31,none),(32,none),(33,none),(34,none),(35,none),(36,none),(37,none),(38,none),(39,none),(40,none),(41,none),(42,none),(43,none),(44,none),(45,none),(46,none),(47,none),(48,none)] (by kernel_rfl) (by kernel_rfl) (by simp(disch:=omega) only[uB,uT,Nat.reduceEqDiff,↓reduceIte,uD,mask,aC,aB,iD,kj,j7,Nat.zero_add,aQ ct bT,Int.toNat_natCast,lk4,lv4,ld4,aP,Bool.not_true,Bool.not_false,aJ aE,bk,fR,d1,d2,d4,hi1,ldp,hln];exact rfl) ?_
       refine uH ?_
       refine uJ [0,3,58] ?_
       refine ae rfl rfl (fun hc3=>?_) (fun hc3=>?_)
       ·cases hc3
       ·refine uG ?_
        exact nx (by rw[hk];simp only[d1,d2',d3,hi0,hgp,d5,Bool.true_and,Bool.and_true,Bool.not_false,Bool.true_or,Bool.or_true,Bool.false_or]) (by simp[aI,az])
      |false=>
       rw[d5] at hln
       refine aU [(0,none),(1,none),(2,none),(3,none),(4,none),(5,none),(6,none),(7,none),(8,none),(9,none),(10,none),(11,none),(12,none),(13,none),(14,none),(15,none),(16,none),(17,none),(18,none),(19,none),(20,none),(21,none),(22,none),(23,none),(24,none),(25,none),(26,none),(27,none),(28,none),(29,none),(30,none),(31,none),(32,none),(33,none),(34,none),(35,none),(36,none),(37,none),(38,none),(39,none),(40,none),(41,none),(42,none),(43,none),(44,none),(45,none),(46,none),(47,none),(48,none)] (by kernel_rfl) (by kernel_rfl) (by simp(disch:=omega) only[uB,uT,Nat.reduceEqDiff,↓reduceIte,uD,mask,aC,aB,iD,kj,j7,Nat.zero_add,aQ ct bT,Int.toNat_natCast,lk4,lv4,ld4,aP,Bool.not_true,Bool.not_false,aJ aE,bk,fR,d1,d2,d4,hi1,ldp,hln];exact rfl) ?_
       refine uH ?_
       refine uJ [0,3,58] ?_
       refine ae rfl rfl (fun hc3=>?_) (fun hc3=>?_)
       ·refine uG ?_
        exact fl (by rw[hk];simp only[d1,d2',d3,hi0,hgp,d5,Bool.false_and,Bool.and_false,Bool.true_and,Bool.and_true,Bool.not_true,Bool.false_or]) rfl
       ·cases hc3
 ·simp at hc2
  have:i=ws.length:=by omega
  subst this
  refine uG ?_
  refine ai rfl ?_
  rw[hall];rfl
end
end Go.Proofs.Ytofohkdkpbigiaa
end
section
namespace Go.Proofs.Ytofohkdkpbigiaa
open Go.Am
set_option maxRecDepth 10000
set_option maxHeartbeats 1000000
set_option linter.unusedSimpArgs false
section
variable {O:bj}
theorem Jy:X.fns.get 13=some Try.f13:=by kernel_rfl
def Qk (c:Cmd):Prop:=decide (c.kind<0)=false∧decide (5<c.kind)=false∧decide (c.client<0)=false∧decide (100<c.client)=false∧dA c.seq=true∧dA c.snap=true∧dA c.dl=true∧dA c.after=true∧dA c.held=true
def Qn (c:Cmd):Prop:=decide (c.keys.length≤200)=true∧decide (c.ranges.length≤50)=true∧decide (c.writes.length≤200)=true∧decide ((1000:Int)<(c.text.len:Int))=false∧decide (c.code<0)=false∧decide (21<c.code)=false∧decide ((200:Int)<(c.rows.length:Int))=false
theorem vN (ho:yt O)(hm:O 13=none){s:St}{c:Cmd}{z:CL}(hc:jI s c z){Z:Nat→Prop}(hr:oP s Z z.x c.rows)(hok:sc c)(hrl:c.rows.length≤1000000)(hrl2:∀r∈c.rows,r.length≤1000000):
  Ca X O (.fn 13) [.agg (bY c z)] s fun r=>∃s',r= .ret (.bool (lv c)) s'∧Am.Mod No s s':=by
 obtain⟨vs,hs,_,hall⟩:=hr.ex
 have hvl:=hall.len
 obtain⟨ax,cx,xx,ex,_⟩:=hs.ex
 rw[List.length_map,hvl] at ex
 obtain⟨ak,ck,xk,ek,_⟩:=hc.k.ex
 obtain⟨ar,cr,xr,er,_⟩:=hc.r.ex
 obtain⟨aw,cw,xw,ew,_⟩:=hc.w.ex
 rw[List.length_map] at ek er ew
 have hkl:=hc.kl
 have hrl':=hc.rl
 have hwl:=hc.wl
 refine bb hm Jy rfl ?_
 unfold aD aD
 refine fO ?_;refine ad (by simp(disch:=omega) only[uB,uT,cX (cs:=bY c z) hc.qI];exact rfl) ?_;refine dR ?_;refine cJ ?_
 refine eE fun s1 hn1 hm1 hb1=>?_
 have gx:∀ {s'},Am.Mod No s1 s'→aO X 38 (.ptr (some (s.nx,12))) s'=some (.old (.slc ax c.rows.length cx xx)):=fun hm=>by rw[←ex];exact(hb1.no hm).ld (i:=12) rfl eO rfl jt
 have gk:∀ {s'},Am.Mod No s1 s'→aO X 36 (.ptr (some (s.nx,4))) s'=some (.old (.slc ak c.keys.length ck xk)):=fun hx=>by rw[←ek];exact(hb1.no hx).ld (i:=4) rfl dS rfl fV
 have gr:∀ {s'},Am.Mod No s1 s'→aO X 37 (.ptr (some (s.nx,5))) s'=some (.old (.slc ar c.ranges.length cr xr)):=fun hx=>by rw[←er];exact(hb1.no hx).ld (i:=5) rfl eP rfl fY
 have gw:∀ {s'},Am.Mod No s1 s'→aO X 35 (.ptr (some (s.nx,6))) s'=some (.old (.slc aw c.writes.length cw xw)):=fun hx=>by rw[←ew];exact(hb1.no hx).ld (i:=6) rfl ct rfl fW
 have rf:=Mod.refl No s1
 have gx1:=gx rf
 have gk1:=gk rf
 have gr1:=gr rf
 have gw1:=gw rf
 have l0:aO X 3 (.ptr (some (s.nx,0))) s1=some (.old (.int .i64 c.kind)):=hb1.ld (i:=0) rfl aN rfl ay
 have l1:aO X 3 (.ptr (some (s.nx,1))) s1=some (.old (.int .i64 c.client)):=hb1.ld (i:=1) rfl aN rfl ay
 have l2:aO X 3 (.ptr (some (s.nx,2))) s1=some (.old (.int .i64 c.seq)):=hb1.ld (i:=2) rfl aN rfl ay
 have l3:aO X 3 (.ptr (some (s.nx,3))) s1=some (.old (.int .i64 c.snap)):=hb1.ld (i:=3) rfl aN rfl ay
 have l7:aO X 3 (.ptr (some (s.nx,7))) s1=some (.old (.int .i64 c.dl)):=hb1.ld (i:=7) rfl aN rfl ay
 have l8:aO X 3 (.ptr (some (s.nx,8))) s1=some (.old (.int .i64 c.after)):=hb1.ld (i:=8) rfl aN rfl ay
 have l9:aO X 3 (.ptr (some (s.nx,9))) s1=some (.old (.int .i64 c.held)):=hb1.ld (i:=9) rfl aN rfl ay
 have l11:aO X 3 (.ptr (some (s.nx,11))) s1=some (.old (.int .i64 c.code)):=hb1.ld (i:=11) rfl aN rfl ay
 have l10:aO X 9 (.ptr (some (s.nx,10))) s1=some (.old (.str c.text)):=hb1.ld (i:=10) rfl aE rfl aF
 rw[ex] at hs
 have hck:=(hc.no hm1).k
 have hcr:=(hc.no hm1).r
 have hcw:=(hc.no hm1).w
 rw[ek] at hck
 rw[er] at hcr
 rw[ew] at hcw
 have bad:lv c=false→∀ {L} {s'},lk L 2=some (.bool false)→Am.Mod No s s'→Fin (tz X Try.f13 fun r=>∃s',r= .ret (.bool (lv c)) s'∧Am.Mod No s s') .ret L [] s':=fun h L s' hL hmm=>by
  refine ai (l:=[.bool false]) (by show iN X L s' [.tmp 2]=_;simp only[iN,rG,hL]) ?_
  exact⟨s',by rw[h];rfl,hmm⟩
 have hmr:gq c=((om c.keys&&c.ranges.all okR)&& (decide (c.keys.length≤200)&&decide (c.ranges.length≤50))):=rfl
 have hmw:gE c=(pf c.writes&&decide (c.writes.length≤200)):=rfl
 have htm:(wi c).all dA=(dA c.seq&& (dA c.snap&& (dA c.dl&& (dA c.after&&dA c.held)))):=by simp[wi]
 have hmc:lv c=(mi c&& ((wi c).all dA&& (c.rows.all dZ&& (gq c&&gE c)))):=rfl
 have hmh:mi c=(!decide (c.kind<0)&& (!decide (5<c.kind)&& (!decide (c.client<0)&& (!decide (100<c.client)&& (!decide ((1000:Int)<(c.text.len:Int))&& (!decide (c.code<0)&& (!decide (21<c.code)&& !decide ((200:Int)<(c.rows.length:Int))))))))):=rfl
 have ek200:decide ((200:Int)<(c.keys.length:Int))= !decide (c.keys.length≤200):=by rw[Bool.eq_iff_iff];simp;omega
 have er50:decide ((50:Int)<(c.ranges.length:Int))= !decide (c.ranges.length≤50):=by rw[Bool.eq_iff_iff];simp;omega
 have ew200:decide ((200:Int)<(c.writes.length:Int))= !decide (c.writes.length≤200):=by rw[Bool.eq_iff_iff];simp;omega
 rw[htm,hmr,hmw,hmh] at hmc
 refine eL (fun L s'=>L=[(1, .ptr (some (s.nx,0)))]∧s1=s'∧Qk c) ?_ ?_
 ·
  cases d0:decide (c.kind<0) with
  |true=>
   (repeat(first|refine uS ?_ |refine aa rfl ?_));refine ad (by simp(disch:=omega) only[uB,uT,jD,gT,lA,me,mA,nC,nX,Nat.zero_add,l0,l1,l2,l3,l7,l8,l9,aP,Bool.not_true,Bool.not_false,d0];exact rfl) ?_;(repeat(first|refine uS ?_ |refine aa rfl ?_))
   refine uH ?_
   refine uJ [1,53] ?_
   refine ae rfl rfl (fun hc3=>?_) (fun hc3=>?_)
   ·refine uG ?_
    exact bad (by rw[hmc];simp only[d0,Bool.not_true,Bool.not_false,Bool.true_and,Bool.false_and,Bool.and_false,Bool.and_true]) rfl hm1
   ·cases hc3
  |false=>
   cases d1:decide (5<c.kind) with
   |true=>
    (repeat(first|refine uS ?_ |refine aa rfl ?_));refine ad (by simp(disch:=omega) only[uB,uT,jD,gT,lA,me,mA,nC,nX,Nat.zero_add,l0,l1,l2,l3,l7,l8,l9,aP,Bool.not_true,Bool.not_false,d0,d1];exact rfl) ?_;(repeat(first|refine uS ?_ |refine aa rfl ?_))
    refine uH ?_
    refine uJ [1,53] ?_
    refine ae rfl rfl (fun hc3=>?_) (fun hc3=>?_)
    ·refine uG ?_
     exact bad (by rw[hmc];simp only[d0,d1,Bool.not_true,Bool.not_false,Bool.true_and,Bool.false_and,Bool.and_false,Bool.and_true]) rfl hm1
    ·cases hc3
   |false=>
    cases d2:decide (c.client<0) with
    |true=>
     (repeat(first|refine uS ?_ |refine aa rfl ?_));refine ad (by simp(disch:=omega) only[uB,uT,jD,gT,lA,me,mA,nC,nX,Nat.zero_add,l0,l1,l2,l3,l7,l8,l9,aP,Bool.not_true,Bool.not_false,d0,d1,d2];exact rfl) ?_;(repeat(first|refine uS ?_ |refine aa rfl ?_))
     refine uH ?_
     refine uJ [1,53] ?_
     refine ae rfl rfl (fun hc3=>?_) (fun hc3=>?_)
     ·refine uG ?_
      exact bad (by rw[hmc];simp only[d0,d1,d2,Bool.not_true,Bool.not_false,Bool.true_and,Bool.false_and,Bool.and_false,Bool.and_true]) rfl hm1
     ·cases hc3
    |false=>
     cases d3:decide (100<c.client) with
     |true=>
      (repeat(first|refine uS ?_ |refine aa rfl ?_));refine ad (by simp(disch:=omega) only[uB,uT,jD,gT,lA,me,mA,nC,nX,Nat.zero_add,l0,l1,l2,l3,l7,l8,l9,aP,Bool.not_true,Bool.not_false,d0,d1,d2,d3];exact rfl) ?_;(repeat(first|refine uS ?_ |refine aa rfl ?_))
      refine uH ?_
      refine uJ [1,53] ?_
      refine ae rfl rfl (fun hc3=>?_) (fun hc3=>?_)
      ·refine uG ?_
       exact bad (by rw[hmc];simp only[d0,d1,d2,d3,Bool.not_true,Bool.not_false,Bool.true_and,Bool.false_and,Bool.and_false,Bool.and_true]) rfl hm1
      ·cases hc3
     |false=>
      repeat(first|refine uS ?_ |refine aa rfl ?_ |refine ad (by simp(disch:=omega) only[uB,uT,jD,gT,lA,me,mA,nC,nX,Nat.zero_add,l0,l1,l2,l3,l7,l8,l9,aP,Bool.not_true,Bool.not_false,d0,d1,d2,d3];exact rfl) ?_)
      refine aj (mq ho.time) ?_ ?_
      ·rintro r s' e
       cases e
       cases e0:dA c.seq with
       |false=>
        refine bD (by simp(disch:=omega) only[uB,uT,jD,gT,lA,me,mA,nC,nX,Nat.zero_add,l0,l1,l2,l3,l7,l8,l9,aP,Bool.not_true,Bool.not_false];exact rfl) ?_
        refine uH ?_
        refine uJ [1,53] ?_
        refine ae rfl rfl (fun hc3=>?_) (fun hc3=>?_)
        ·refine uG ?_
         exact bad (by rw[hmc];simp only[d0,d1,d2,d3,e0,Bool.not_true,Bool.not_false,Bool.true_and,Bool.false_and,Bool.and_false,Bool.and_true]) rfl hm1
        ·cases hc3
       |true=>
        refine bD (by simp(disch:=omega) only[uB,uT,jD,gT,lA,me,mA,nC,nX,Nat.zero_add,l0,l1,l2,l3,l7,l8,l9,aP,Bool.not_true,Bool.not_false];exact rfl) ?_
        refine aj (mq ho.time) ?_ ?_
        ·rintro r s' e
         cases e
         cases e1:dA c.snap with
         |false=>
          refine bD (by simp(disch:=omega) only[uB,uT,jD,gT,lA,me,mA,nC,nX,Nat.zero_add,l0,l1,l2,l3,l7,l8,l9,aP,Bool.not_true,Bool.not_false];exact rfl) ?_
          refine uH ?_
          refine uJ [1,53] ?_
          refine ae rfl rfl (fun hc3=>?_) (fun hc3=>?_)
          ·refine uG ?_
           exact bad (by rw[hmc];simp only[d0,d1,d2,d3,e0,e1,Bool.not_true,Bool.not_false,Bool.true_and,Bool.false_and,Bool.and_false,Bool.and_true]) rfl hm1
          ·cases hc3
         |true=>
          refine bD (by simp(disch:=omega) only[uB,uT,jD,gT,lA,me,mA,nC,nX,Nat.zero_add,l0,l1,l2,l3,l7,l8,l9,aP,Bool.not_true,Bool.not_false];exact rfl) ?_
          refine aj (mq ho.time) ?_ ?_
          ·rintro r s' e
           cases e
           cases e2:dA c.dl with
           |false=>
            refine bD (by simp(disch:=omega) only[uB,uT,jD,gT,lA,me,mA,nC,nX,Nat.zero_add,l0,l1,l2,l3,l7,l8,l9,aP,Bool.not_true,Bool.not_false];exact rfl) ?_
            refine uH ?_
            refine uJ [1,53] ?_
            refine ae rfl rfl (fun hc3=>?_) (fun hc3=>?_)
            ·refine uG ?_
             exact bad (by rw[hmc];simp only[d0,d1,d2,d3,e0,e1,e2,Bool.not_true,Bool.not_false,Bool.true_and,Bool.false_and,Bool.and_false,Bool.and_true]) rfl hm1
            ·cases hc3
           |true=>
            refine bD (by simp(disch:=omega) only[uB,uT,jD,gT,lA,me,mA,nC,nX,Nat.zero_add,l0,l1,l2,l3,l7,l8,l9,aP,Bool.not_true,Bool.not_false];exact rfl) ?_
            refine aj (mq ho.time) ?_ ?_
            ·rintro r s' e
             cases e
             cases e3:dA c.after with
             |false=>
              refine bD (by simp(disch:=omega) only[uB,uT,jD,gT,lA,me,mA,nC,nX,Nat.zero_add,l0,l1,l2,l3,l7,l8,l9,aP,Bool.not_true,Bool.not_false];exact rfl) ?_
              refine uH ?_
              refine uJ [1,53] ?_
              refine ae rfl rfl (fun hc3=>?_) (fun hc3=>?_)
              ·refine uG ?_
               exact bad (by rw[hmc];simp only[d0,d1,d2,d3,e0,e1,e2,e3,Bool.not_true,Bool.not_false,Bool.true_and,Bool.false_and,Bool.and_false,Bool.and_true]) rfl hm1
              ·cases hc3
             |true=>
              refine bD (by simp(disch:=omega) only[uB,uT,jD,gT,lA,me,mA,nC,nX,Nat.zero_add,l0,l1,l2,l3,l7,l8,l9,aP,Bool.not_true,Bool.not_false];exact rfl) ?_
              refine aj (mq ho.time) ?_ ?_
              ·rintro r s' e
               cases e
               cases e4:dA c.held with
               |false=>
                refine bD (by simp(disch:=omega) only[uB,uT,jD,gT,lA,me,mA,nC,nX,Nat.zero_add,l0,l1,l2,l3,l7,l8,l9,aP,Bool.not_true,Bool.not_false];exact rfl) ?_
                refine uH ?_
                refine uJ [1,53] ?_
                refine ae rfl rfl (fun hc3=>?_) (fun hc3=>?_)
                ·refine uG ?_
                 exact bad (by rw[hmc];simp only[d0,d1,d2,d3,e0,e1,e2,e3,e4,Bool.not_true,Bool.not_false,Bool.true_and,Bool.false_and,Bool.and_false,Bool.and_true]) rfl hm1
                ·cases hc3
               |true=>
                refine bD (by simp(disch:=omega) only[uB,uT,jD,gT,lA,me,mA,nC,nX,Nat.zero_add,l0,l1,l2,l3,l7,l8,l9,aP,Bool.not_true,Bool.not_false];exact rfl) ?_
                refine uH ?_
                refine uJ [1,53] ?_
                refine ae rfl rfl (fun hc3=>?_) (fun hc3=>?_)
                ·cases hc3
                ·refine uG ?_
                 exact dD [(1, .ptr (some (s.nx,0)))] ⟨rfl,rfl,⟨d0,d1,d2,d3,e0,e1,e2,e3,e4⟩⟩ (by simp[aI,az])
              ·rintro r s' e
               cases e
            ·rintro r s' e
             cases e
          ·rintro r s' e
           cases e
        ·rintro r s' e
         cases e
      ·rintro r s' e
       cases e
 ·rintro L _ ⟨rfl,rfl,⟨d0,d1,d2,d3,e0,e1,e2,e3,e4⟩⟩
  simp only[d0,d1,d2,d3,e0,e1,e2,e3,e4,Bool.not_false,Bool.true_and] at hmc
  refine eL (fun L s'=>L=[(1, .ptr (some (s.nx,0)))]∧s1=s'∧Qn c) ?_ ?_
  ·
   cases f0:decide (c.keys.length≤200) with
   |false=>
    repeat(first|refine uS ?_ |refine aa rfl ?_ |refine ad (by simp(disch:=omega) only[uB,uT,lh,jY,gS,ie,iV,dI,Nat.zero_add,gk1,gr1,gw1,gx1,l10,l11,aP,aJ aE,ek200,er50,ew200,Bool.not_true,Bool.not_false,f0];exact rfl) ?_)
    refine uJ [1,91] ?_
    refine ae rfl rfl (fun hc3=>?_) (fun hc3=>?_)
    ·refine uG ?_
     exact bad (by rw[hmc];simp only[f0,Bool.not_true,Bool.not_false,Bool.true_and,Bool.false_and,Bool.and_false,Bool.and_true]) rfl hm1
    ·cases hc3
   |true=>
    cases f1:decide (c.ranges.length≤50) with
    |false=>
     repeat(first|refine uS ?_ |refine aa rfl ?_ |refine ad (by simp(disch:=omega) only[uB,uT,lh,jY,gS,ie,iV,dI,Nat.zero_add,gk1,gr1,gw1,gx1,l10,l11,aP,aJ aE,ek200,er50,ew200,Bool.not_true,Bool.not_false,f0,f1];exact rfl) ?_)
     refine uJ [1,91] ?_
     refine ae rfl rfl (fun hc3=>?_) (fun hc3=>?_)
     ·refine uG ?_
      exact bad (by rw[hmc];simp only[f0,f1,Bool.not_true,Bool.not_false,Bool.true_and,Bool.false_and,Bool.and_false,Bool.and_true]) rfl hm1
     ·cases hc3
    |true=>
     cases f2:decide (c.writes.length≤200) with
     |false=>
      repeat(first|refine uS ?_ |refine aa rfl ?_ |refine ad (by simp(disch:=omega) only[uB,uT,lh,jY,gS,ie,iV,dI,Nat.zero_add,gk1,gr1,gw1,gx1,l10,l11,aP,aJ aE,ek200,er50,ew200,Bool.not_true,Bool.not_false,f0,f1,f2];exact rfl) ?_)
      refine uJ [1,91] ?_
      refine ae rfl rfl (fun hc3=>?_) (fun hc3=>?_)
      ·refine uG ?_
       exact bad (by rw[hmc];simp only[f0,f1,f2,Bool.not_true,Bool.not_false,Bool.true_and,Bool.false_and,Bool.and_false,Bool.and_true]) rfl hm1
      ·cases hc3
     |true=>
      cases f3:decide ((1000:Int)<(c.text.len:Int)) with
      |true=>
       repeat(first|refine uS ?_ |refine aa rfl ?_ |refine ad (by simp(disch:=omega) only[uB,uT,lh,jY,gS,ie,iV,dI,Nat.zero_add,gk1,gr1,gw1,gx1,l10,l11,aP,aJ aE,ek200,er50,ew200,Bool.not_true,Bool.not_false,f0,f1,f2,f3];exact rfl) ?_)
       refine uJ [1,91] ?_
       refine ae rfl rfl (fun hc3=>?_) (fun hc3=>?_)
       ·refine uG ?_
        exact bad (by rw[hmc];simp only[f0,f1,f2,f3,Bool.not_true,Bool.not_false,Bool.true_and,Bool.false_and,Bool.and_false,Bool.and_true]) rfl hm1
       ·cases hc3
      |false=>
       cases f4:decide (c.code<0) with
       |true=>
        repeat(first|refine uS ?_ |refine aa rfl ?_ |refine ad (by simp(disch:=omega) only[uB,uT,lh,jY,gS,ie,iV,dI,Nat.zero_add,gk1,gr1,gw1,gx1,l10,l11,aP,aJ aE,ek200,er50,ew200,Bool.not_true,Bool.not_false,f0,f1,f2,f3,f4];exact rfl) ?_)
        refine uJ [1,91] ?_
        refine ae rfl rfl (fun hc3=>?_) (fun hc3=>?_)
        ·refine uG ?_
         exact bad (by rw[hmc];simp only[f0,f1,f2,f3,f4,Bool.not_true,Bool.not_false,Bool.true_and,Bool.false_and,Bool.and_false,Bool.and_true]) rfl hm1
        ·cases hc3
       |false=>
        cases f5:decide (21<c.code) with
        |true=>
         repeat(first|refine uS ?_ |refine aa rfl ?_ |refine ad (by simp(disch:=omega) only[uB,uT,lh,jY,gS,ie,iV,dI,Nat.zero_add,gk1,gr1,gw1,gx1,l10,l11,aP,aJ aE,ek200,er50,ew200,Bool.not_true,Bool.not_false,f0,f1,f2,f3,f4,f5];exact rfl) ?_)
         refine uJ [1,91] ?_
         refine ae rfl rfl (fun hc3=>?_) (fun hc3=>?_)
         ·refine uG ?_
          exact bad (by rw[hmc];simp only[f0,f1,f2,f3,f4,f5,Bool.not_true,Bool.not_false,Bool.true_and,Bool.false_and,Bool.and_false,Bool.and_true]) rfl hm1
         ·cases hc3
        |false=>
         cases f6:decide ((200:Int)<(c.rows.length:Int)) with
         |true=>
          repeat(first|refine uS ?_ |refine aa rfl ?_ |refine ad (by simp(disch:=omega) only[uB,uT,lh,jY,gS,ie,iV,dI,Nat.zero_add,gk1,gr1,gw1,gx1,l10,l11,aP,aJ aE,ek200,er50,ew200,Bool.not_true,Bool.not_false,f0,f1,f2,f3,f4,f5,f6];exact rfl) ?_)
          refine uJ [1,91] ?_
          refine ae rfl rfl (fun hc3=>?_) (fun hc3=>?_)
          ·refine uG ?_
           exact bad (by rw[hmc];simp only[f0,f1,f2,f3,f4,f5,f6,Bool.not_true,Bool.not_false,Bool.true_and,Bool.false_and,Bool.and_false,Bool.and_true]) rfl hm1
          ·cases hc3
         |false=>
          repeat(first|refine uS ?_ |refine aa rfl ?_ |refine ad (by simp(disch:=omega) only[uB,uT,lh,jY,gS,ie,iV,dI,Nat.zero_add,gk1,gr1,gw1,gx1,l10,l11,aP,aJ aE,ek200,er50,ew200,Bool.not_true,Bool.not_false,f0,f1,f2,f3,f4,f5,f6];exact rfl) ?_)
          refine uJ [1,91] ?_
          refine ae rfl rfl (fun hc3=>?_) (fun hc3=>?_)
          ·cases hc3
          ·refine uG ?_
           exact dD [(1, .ptr (some (s.nx,0)))] ⟨rfl,rfl,⟨f0,f1,f2,f3,f4,f5,f6⟩⟩ (by simp[aI,az])
  ·rintro L _ ⟨rfl,rfl,⟨f0,f1,f2,f3,f4,f5,f6⟩⟩
   simp only[f0,f1,f2,f3,f4,f5,f6,Bool.not_true,Bool.not_false,Bool.true_and,Bool.false_and,Bool.and_false,Bool.and_true] at hmc
   refine eL (fun L s'=>L=[(1, .ptr (some (s.nx,0)))]∧s1=s'∧c.ranges.all okR=true) ?_ ?_
   ·refine uG ?_
    have hbq:c.ranges.all okR=false→lv c=false:=fun h=>by rw[hmc,h];simp only[Bool.not_true,Bool.not_false,Bool.true_and,Bool.false_and,Bool.and_false,Bool.and_true]
    clear hmc
    generalize c.ranges=rs at*
    let I:Nat→Sl→St→Prop:=fun i L s'=>s1=s'∧i≤rs.length∧(rs.take i).all okR=true∧L=[(1, .ptr (some (s.nx,0))),(3, .int .i64 (i:Int))]
    refine WL.less (M:=[(1, .ptr (some (s.nx,0))),(3, .int .i64 ((0:Nat):Int))]) ?_ rfl
    refine aV I (fun i=>rs.length- i) ?_ rs.length 0 _ s1 (by simp) ⟨rfl,Nat.zero_le _,rfl,rfl⟩
    rintro i L _ ⟨rfl,hi,hallr,rfl⟩
    repeat(first|refine uS ?_ |refine aa rfl ?_ |refine ad (by simp(disch:=omega) only[uB,uT,jY,Nat.zero_add,gr1];exact rfl) ?_)
    refine uJ [1,3,96] ?_
    refine ae rfl rfl (fun hc2=>?_) (fun hc2=>?_)
    ·simp at hc2
     obtain⟨q,hq⟩:∃q,rs[i]? =some q:=⟨_,List.getElem?_eq_getElem (by omega)⟩
     obtain⟨b5,off5,t5,n5,c5,x5,e5,k1,k2,k3,k4⟩:=ll hcr hq
     cases e5
     have p1:=ah (X:=X) aE rfl aF k1 k2
     have p2:=ah (X:=X) aE rfl aF k1 k3
     have step:okR q=true→(rs.take (i+1)).all okR=true:=fun h=>by
      rw[List.take_add_one,hq,List.all_append,hallr];simp[h]
     have bq:okR q=false→rs.all okR=false:=fun h=>by rw[List.all_eq_false];exact⟨q,List.mem_of_getElem? hq,by rw[h];exact Bool.false_ne_true⟩
     cases g1:okL q.1 with
     |false=>
      repeat(first|refine uS ?_ |refine aa rfl ?_ |refine ad (by simp(disch:=omega) only[uB,uT,jY,tW,tR,Nat.zero_add,gr1,aQ eP fQ,p1,p2,Int.toNat_natCast,aJ aE,fR,g1,Bool.not_false,aP];exact rfl) ?_)
      refine uJ [1,3,116] ?_
      refine ae rfl rfl (fun hc3=>?_) (fun hc3=>?_)
      ·refine uG ?_
       exact bad (hbq (bq (by unfold okR;rw[g1];rfl))) rfl hm1
      ·cases hc3
     |true=>
      repeat(first|refine uS ?_ |refine aa rfl ?_ |refine ad (by simp(disch:=omega) only[uB,uT,jY,tW,tR,Nat.zero_add,gr1,aQ eP fQ,p1,p2,Int.toNat_natCast,aJ aE,fR,g1,Bool.not_true,aP];exact rfl) ?_)
      refine uJ [1,3,116] ?_
      refine ae rfl rfl (fun hc3=>?_) (fun hc3=>?_)
      ·refine uG ?_
       exact bad (hbq (bq (by unfold okR;rw[g1];simpa using hc3))) rfl hm1
      ·refine uG ?_
       exact aH (i+1) [(1, .ptr (some (s.nx,0))),(3, .int .i64 ((i+1:Nat):Int))] ⟨rfl,by omega,step (by unfold okR;rw[g1];simpa using hc3),rfl⟩ (by show rs.length- (i+1)<rs.length- i;omega) (by simp[aI,az])
    ·simp at hc2
     have:i=rs.length:=by omega
     subst this
     rw[List.take_length] at hallr
     refine uG ?_
     exact dD [(1, .ptr (some (s.nx,0)))] ⟨rfl,rfl,hallr⟩ (by simp[aI,az])
   ·rintro L _ ⟨rfl,rfl,hrs⟩
    simp only[hrs,Bool.not_true,Bool.not_false,Bool.true_and,Bool.false_and,Bool.and_false,Bool.and_true] at hmc
    refine eL (fun L s'=>L=[(1, .ptr (some (s.nx,0)))]∧Am.Mod No s1 s'∧c.rows.all dZ=true) ?_ ?_
    ·refine uG ?_
     have hbq:c.rows.all dZ=false→lv c=false:=fun h=>by rw[hmc,h];simp only[Bool.not_true,Bool.not_false,Bool.true_and,Bool.false_and,Bool.and_false,Bool.and_true]
     clear hmc
     have hokr:=hok.rows
     generalize c.rows=rows at*
     let I:Nat→Sl→St→Prop:=fun i L s'=>Am.Mod No s1 s'∧i≤rows.length∧(rows.take i).all dZ=true∧L=[(1, .ptr (some (s.nx,0))),(4, .int .i64 (i:Int))]
     refine WL.less (M:=[(1, .ptr (some (s.nx,0))),(4, .int .i64 ((0:Nat):Int))]) ?_ rfl
     refine aV I (fun i=>rows.length- i) ?_ rows.length 0 _ s1 (by simp) ⟨rf,Nat.zero_le _,rfl,rfl⟩
     rintro i L s2 ⟨hm2,hi,hallr,rfl⟩
     repeat(first|refine uS ?_ |refine aa rfl ?_ |refine ad (by simp(disch:=omega) only[uB,uT,dI,Nat.zero_add,gx hm2];exact rfl) ?_)
     refine uJ [1,4,121] ?_
     refine ae rfl rfl (fun hc2=>?_) (fun hc2=>?_)
     ·simp at hc2
      obtain⟨q,hq⟩:∃q,rows[i]? =some q:=⟨_,List.getElem?_eq_getElem (by omega)⟩
      obtain⟨w,hw,hws,hwz⟩:=pV hall hq
      have row:∀ {s'},Am.Mod No s1 s'→∃b5 off5 aw cw xw,ax=some (b5,off5,1)∧w= .slc aw q.length cw xw∧aO X 74 (.ptr (some (b5,off5+i))) s'=some (.old (.slc aw q.length cw xw)):=fun hmm=>by
       obtain⟨b5,off5,c5,x5,t5,n5,e5,_,k2,k3⟩:=(hs.mod (hm1.trans hmm (fun _ _ h=>h)) (fun _ _ h=>h)).at (i:=i) (r:=[w]) (by rw[List.getElem?_map,hw];rfl)
       rw[List.length_map,hvl] at e5
       cases e5
       have k4:=eS k3
       obtain⟨aw,cw,xw,rfl,_⟩:=hws.ex
       rw[List.length_map] at k4 ⊢
       rw[Nat.mul_one] at k4
       exact⟨b5,off5,aw,cw,xw,rfl,rfl,ah iA rfl ey k2 k4⟩
      obtain⟨b5,off5,awq,cwq,xwq,rfl,rfl,lrow2⟩:=row hm2
      have lrow:∀ {s'},Am.Mod No s1 s'→aO X 74 (.ptr (some (b5,off5+i))) s'=some (.old (.slc awq q.length cwq xwq)):=fun hmm=>by
       obtain⟨b6,off6,aw6,cw6,xw6,h6,h7,h8⟩:=row hmm
       cases h6;cases h7;exact h8
      have hqm:=hokr q (List.mem_of_getElem? hq)
      have hql:=hrl2 q (List.mem_of_getElem? hq)
      have hf:dZ q=false→lv c=false:=fun hm=>hbq (by rw[List.all_eq_false];exact⟨q,List.mem_of_getElem? hq,by rw[hm];exact Bool.false_ne_true⟩)
      have step:dZ q=true→(rows.take (i+1)).all dZ=true:=fun h=>by
       rw[List.take_add_one,hq,List.all_append,hallr];simp[h]
      have e8:decide ((8:Int)<(q.length:Int))= !decide (q.length≤8):=by rw[Bool.eq_iff_iff];simp;omega
      refine oC ?_
      refine cJ ?_
      refine eL (fun L s'=>L=[(1, .ptr (some (s.nx,0))),(4, .int .i64 (i:Int))]∧Am.Mod No s1 s'∧dZ q=true) ?_ ?_
      ·repeat(first|refine uS ?_ |refine aa rfl ?_ |refine ad (by simp(disch:=omega) only[uB,uT,dI,Nat.zero_add,gx hm2,aQ eO ey,Nat.mul_one,lrow2,Int.toNat_natCast,e8];exact rfl) ?_)
       refine uJ [1,4,130] ?_
       refine ae rfl rfl (fun hc3=>?_) (fun hc3=>?_)
       ·refine uG ?_
        have h8:decide (q.length≤8)=false:=by simpa using hc3
        exact bad (hf (by unfold dZ;rw[h8,Bool.and_false])) rfl (hm1.trans hm2 (fun _ _ h=>h))
       ·have h8:decide (q.length≤8)=true:=by simpa using hc3
        refine uG ?_
        let J:Nat→Sl→St→Prop:=fun k L s'=>Am.Mod No s1 s'∧k≤q.length∧(q.take k).all fe=true∧L=[(1, .ptr (some (s.nx,0))),(4, .int .i64 (i:Int)),(5, .int .i64 (k:Int))]
        refine WL.less (M:=[(1, .ptr (some (s.nx,0))),(4, .int .i64 (i:Int)),(5, .int .i64 ((0:Nat):Int))]) ?_ rfl
        refine aV J (fun k=>q.length- k) ?_ q.length 0 _ s2 (by simp) ⟨hm2,Nat.zero_le _,rfl,rfl⟩
        rintro k L s4 ⟨hm4,hk,hallk,rfl⟩
        repeat(first|refine uS ?_ |refine aa rfl ?_ |refine ad (by simp(disch:=omega) only[uB,uT,dI,Nat.zero_add,gx hm4,aQ eO ey,Nat.mul_one,lrow hm4,Int.toNat_natCast];exact rfl) ?_)
        refine uJ [1,4,5,138] ?_
        refine ae rfl rfl (fun hc4=>?_) (fun hc4=>?_)
        ·simp at hc4
         obtain⟨v,hv⟩:∃v,q[k]? =some v:=⟨_,List.getElem?_eq_getElem (by omega)⟩
         have hm04:=hm1.trans hm4 (fun _ _ h=>h)
         obtain⟨b6,off6,c6,x6,t6,n6,e6,_,j2,j3⟩:=(hws.mod hm04 (fun _ _ h=>h)).at (i:=k) (r:=vl v) (by rw[List.getElem?_map,hv];rfl)
         rw[List.length_map] at e6
         cases e6
         obtain⟨_,v2,_⟩:=hqm v (List.mem_of_getElem? hv)
         repeat(first|refine uS ?_ |refine aa rfl ?_ |refine ad (by simp(disch:=omega) only[uB,uT,dI,Nat.zero_add,gx hm4,aQ eO ey,Nat.mul_one,lrow hm4,Int.toNat_natCast,aQ iA dH,cE fL rfl dH j2 j3];exact rfl) ?_)
         refine aj (F6 ho v2) ?_ ?_
         ·rintro r s6 ⟨s6',e,hm6⟩
          cases e
          have hm16:=hm4.trans hm6 (fun _ _ h=>h)
          refine uL ?_
          refine uH ?_
          refine uJ [1,4,5,150] ?_
          refine ae rfl rfl (fun hc5=>?_) (fun hc5=>?_)
          ·refine uG ?_
           have hq0:q.all fe=false:=by rw[List.all_eq_false];exact⟨v,List.mem_of_getElem? hv,by simpa using hc5⟩
           exact bad (hf (by unfold dZ;rw[hq0];rfl)) rfl (hm1.trans hm16 (fun _ _ h=>h))
          ·refine uG ?_
           refine aH (k+1) [(1, .ptr (some (s.nx,0))),(4, .int .i64 (i:Int)),(5, .int .i64 ((k+1:Nat):Int))] ⟨hm16,by omega,?_,rfl⟩ (by show q.length- (k+1)<q.length- k;omega) (by simp[aI,az])
           rw[List.take_add_one,hv,List.all_append,hallk]
           simp at hc5
           simp[hc5]
         ·rintro r s' ⟨_,e,_⟩
          cases e
        ·simp at hc4
         have:k=q.length:=by omega
         subst this
         rw[List.take_length] at hallk
         refine uG ?_
         exact dD [(1, .ptr (some (s.nx,0))),(4, .int .i64 (i:Int))] ⟨rfl,hm4,by unfold dZ;rw[hallk,h8];rfl⟩ (by simp[aI,az])
      ·rintro L s4 ⟨rfl,hm4,hq2⟩
       refine uG ?_
       exact aH (i+1) [(1, .ptr (some (s.nx,0))),(4, .int .i64 ((i+1:Nat):Int))] ⟨hm4,by omega,step hq2,rfl⟩ (by show rows.length- (i+1)<rows.length- i;omega) (by simp[aI,az])
     ·simp at hc2
      have:i=rows.length:=by omega
      subst this
      rw[List.take_length] at hallr
      refine uG ?_
      exact dD [(1, .ptr (some (s.nx,0)))] ⟨rfl,hm2,hallr⟩ (by simp[aI,az])
    ·rintro L s3 ⟨rfl,hm3,hrows⟩
     simp only[hrows,Bool.not_true,Bool.not_false,Bool.true_and,Bool.false_and,Bool.and_false,Bool.and_true] at hmc
     have hm03:=hm1.trans hm3 (fun _ _ h=>h)
     have hck3:=hck.mod hm3 (fun _ _ h=>h)
     have hcw3:=hcw.mod hm3 (fun _ _ h=>h)
     repeat(first|refine uS ?_ |refine aa rfl ?_ |refine ad (by simp(disch:=omega) only[uB,uT,lh,Nat.zero_add,gk hm3];exact rfl) ?_)
     refine aj (C6 ho hck3 hkl) ?_ ?_
     ·rintro r s' e
      cases e
      cases g:om c.keys with
      |false=>
       refine bD (by simp(disch:=omega) only[uB,uT,aP];exact rfl) ?_
       refine uG ?_
       refine ai rfl ?_
       exact⟨_,by rw[hmc,g];rfl,hm03⟩
      |true=>
       refine bD (by simp(disch:=omega) only[uB,uT,gS,Nat.zero_add,gw hm3];exact rfl) ?_
       refine aj (zm ho hcw3 hwl) ?_ ?_
       ·rintro r s' e
        cases e
        refine uL ?_
        refine uG ?_
        refine ai rfl ?_
        exact⟨_,by rw[hmc,g];rfl,hm03⟩
       ·rintro r s' e
        cases e
     ·rintro r s' e
      cases e
end
end Go.Proofs.Ytofohkdkpbigiaa
end
