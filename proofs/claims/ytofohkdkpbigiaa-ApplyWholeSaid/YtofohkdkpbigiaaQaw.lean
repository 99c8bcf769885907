/-
  A part of the texts.
-/
import Derived.Test.YtofohkdkpbigiaaQav
section
namespace Go.Proofs.Ytofohkdkpbigiaa
open Go.Am
set_option maxRecDepth 10000
set_option maxHeartbeats 1000000
set_option linter.unusedSimpArgs false
def qZ (T:Str):Option Cmd:=match mN T with
 |some B=>match gI B with
  |some (c,_)=>if(fw c).2=0∧(fw c).1.beq T=true then some c else none
  |none=>none
 |none=>none
section
variable {O:bj}
theorem LY:X.fns.get 17=some Try.f17:=by kernel_rfl
theorem AO:X.fns.get 31=some Try.f31:=by kernel_rfl
theorem sy:bz X 40 []=some (.pure (.agg (bY noC noZ))):=by
 simp only[bz,bZ,ly,cS,ay,aF,fV,fY,fW,jt,cL,dc,AV.cells,dB,fB]
 rfl
theorem IM {T:Str}:bz X 98 [(0, .str T)]=some (.pure (.agg [.str T])):=by
 simp only[bz,Cf,Et,cS,aF,cL,dc,AV.cells,dB,fB]
 rfl
theorem I9 {T:Str}:bz X 100 [(0, .agg [.str T])]=some (.pure (.agg [.str T])):=by
 simp only[bz,zx,AQ,cS,zF,cL,dc,AV.cells,dB,fB]
 rfl
theorem Nc {T:Str}{s:St}:dY (.agg [.str T]) s=some (.val (.ptr (some (s.nx,0))) {s with h:=s.h.put s.nx (.cells (Tr.of [.str T]) 1),nx:=s.nx+1}):=cX rfl
theorem Pu {t a:TypeId}{c:Bool}{v:AV}{ms:Array (String×TypeId)}(hu:X.und t=some (.interface ms)):aW X .neq t c (.iface a v) .nilIface=some (.bool true):=by
 show(match je X 20 t (.iface a v) .nilIface with|some b=>some (AV.bool (!b))|none=>none)=_
 simp only[je,hu];rfl
theorem P7 {t:TypeId}{c:Bool}(hu:X.und t=some (.interface #[])):aW X .neq t c .nilIface .nilIface=some (.bool false):=by
 cases c with
 |true=>simp only[aW,yV,hu]
 |false=>
  show(match je X 20 t .nilIface .nilIface with|some b=>some (AV.bool (!b))|none=>none)=_
  simp only[je,hu];rfl
def getD (b2 b3:Nat):qT:=⟨31,[.ptr (some (b2,0)), .ptr (some (b3,0))]⟩
theorem Ee {s:St}{b2 b3:Nat}:Df X O (getD b2 b3) .ret s fun m s'=>m= .ret∧s'=s:=by
 refine MD AO rfl rfl ?_
 show SW X O _ .ret (aD [.ptr (some (b2,0)), .ptr (some (b3,0))] 0) s _
 unfold aD aD aD
 refine GY ?_
 refine IV rfl rfl rfl rfl (fun o ho=>by rcases List.mem_singleton.mp ho with rfl;rfl) (by simp(disch:=omega) only[uB,uT,jC,P7 CA];exact rfl) fun t ht=>⟨rfl,rfl,_,ht,?_⟩
 refine Mq (fun _ _ _ _=>rfl) ?_
 refine ae rfl rfl (fun hc=>?_) (fun hc=>?_)
 ·cases hc
 ·refine oC ?_
  intro t ht
  exact⟨.inl rfl,rfl,rfl,rfl⟩
theorem HT:aX (bY noC noZ)=true:=rfl
theorem J9 {s:St}{b2 b3:Nat}{l2:List AV}{u:AV}(h2:Bx s b2 l2)(hl:l2.length=13)(h3:Bx s b3 [u])(hne:b2≠b3):Df X O (getD b2 b3) (.pan jz) s fun m s'=>m= .ret∧Bx s' b2 (bY noC noZ)∧Bx s' b3 [.int .i64 3]∧Am.Mod (fun d=>d=b2∨d=b3) s s':=by
 obtain⟨s1,e1,g1,hm1,n1⟩:=h2.Aq (X:=X) (t:=40) (m:=bY noC noZ) (by rw[hl];rfl) (by rw[hl];exact cn) HT
 obtain⟨s2,e2,g2,hm2,n2⟩:=(h3.mod hm1 (fun e=>hne e.symm)).stm (X:=X) (t:=23) (i:=0) (w:= .int .i64 3) rfl eM rfl rfl
 have g1':=g1.mod hm2 hne
 refine MD AO rfl rfl ?_
 show SW X O _ (.pan jz) (aD [.ptr (some (b2,0)), .ptr (some (b3,0))] 0) s _
 unfold aD aD aD
 unfold jz
 refine GY ?_
 refine IV rfl rfl rfl rfl (fun o ho=>by rcases List.mem_singleton.mp ho with rfl;rfl) (by simp(disch:=omega) only[uB,uT,jC,Pu CA];exact rfl) fun t ht=>⟨rfl,rfl,_,ht,?_⟩
 refine Mq (fun _ _ _ _=>rfl) ?_
 refine ae rfl rfl (fun hc=>?_) (fun hc=>?_)
 ·refine ad (by simp(disch:=omega) only[uB,uT,sy,e1,e2];exact rfl) ?_
  refine dR ?_
  intro t ht
  exact⟨.inl rfl,rfl,rfl,g1',g2,(hm1.mono (fun _ _ e=> .inl e)).trans hm2 (fun _ _ e=> .inr e)⟩
 ·cases hc
structure DQ (O:bj):Prop where
 put:Mr O
 rd:Oy O
 get:O 17=none
def Nm (T:Str)(c:Cmd)(e:Int):Prop:=(qZ T=some c∧e=0)∨(qZ T=none∧c=noC∧e=3)
theorem zT {s:St}:sY s noC noZ:=
 ⟨⟨Acc.nil.sli,Acc.nil.sli,Acc.nil.sli,by simp[noC],by simp[noC],by simp[noC],⟨_,_,_,_,rfl⟩⟩,⟨fun _=>False,⟨[],Acc.nil.sli,fun c hc=>(by cases hc),trivial⟩,fun d hd=>hd.elim⟩,fun d hd=>(by rcases hd with hd|hd|hd<;>cases hd),⟨fun k hk=>(by cases hk),fun k hk=>(by cases hk),fun k hk=>(by cases hk),si,fun k hk=>(by cases hk)⟩⟩
theorem FC (ho:DQ O){s:St}(htd:Tidy s){T:Str}(hT:T.len≤100000):
  Ca X O (.fn 17) [.str T] s fun r=>∃c z s' e,r= .ret (.tup [.agg (bY c z), .int .i64 e]) s'∧sY s' c z∧(∀d,z.has d→s.nx≤d)∧Am.Mod No s s'∧Nm T c e:=by
 refine Ob ho.get LY rfl ?_
 unfold aD aD
 refine fO ?_;refine ad (by simp(disch:=omega) only[uB,uT,bQ ly rfl,bQ DU rfl,AV.cells];exact rfl) ?_;refine dR ?_;refine cJ ?_
 refine zj fun s1 hn1 hm1 hb2 hb3=>?_
 refine uG ?_
 refine aj (FW ho.put.sl (t:=T) (by omega)) ?_ ?_
 ·rintro r s2 ⟨s2',e,hm2⟩
  cases hop:mN T with
  |none=>
   rw[hop] at e
   cases e
   have hget:qZ T=none:=by unfold qZ;rw[hop]
   have k2:=hb2.no hm2
   obtain⟨s3,e3,g3,hm3,n3⟩:=(hb3.no hm2).stm (X:=X) (t:=23) (i:=0) (w:= .int .i64 3) rfl eM rfl rfl
   have k3:=k2.mod hm3 (by omega)
   have l3:=g3.ld (X:=X) (i:=0) rfl oh rfl eM
   change aO X _ _ _=some (.old (.int .i64 3)) at l3
   refine bD (by simp(disch:=omega) only[uB,uT,e3];exact rfl) ?_
   repeat(first|refine uS ?_ |refine aa rfl ?_ |refine ad (by simp(disch:=omega) only[uB,uT,l3];exact rfl) ?_)
   refine uJ [2,3,14] ?_
   refine ae rfl rfl (fun hc=>?_) (fun hc=>?_)
   ·obtain⟨s4,e4,g4,hm4,n4⟩:=k3.Aq (X:=X) (t:=40) (m:=bY noC noZ) rfl cn HT
    have g34:=g3.mod hm4 (by omega)
    obtain⟨s5,e5,g5,hm5,n5⟩:=g34.stm (X:=X) (t:=23) (i:=0) (w:= .int .i64 3) rfl eM rfl rfl
    have g45:=g4.mod hm5 (by omega)
    have l4:=g34.ld (X:=X) (i:=0) rfl oh rfl eM
    change aO X _ _ _=some (.old (.int .i64 3)) at l4
    have sm:=(zT (s:=s)).h.same
    refine uH ?_
    refine aU [(0,none),(1,none),(2,some [true,false]),(3,some [false])] (by kernel_rfl) (by kernel_rfl) (by simp(disch:=omega) only[uB,uT,Nat.reduceEqDiff,↓reduceIte,uD,mask,aC,aB,sm,sy,l3,e4,l4,e5];exact rfl) ?_
    refine uH ?_
    refine Ce rfl rfl rfl (g45.all bZ rfl cn) (g5.ld (i:=0) rfl oh rfl eM) ?_
    refine⟨noC,noZ,s5,3,rfl,zT,fun d hd=>(by rcases hd with hd|hd|hd<;>cases hd),?_, .inr ⟨hget,rfl,rfl⟩⟩
    exact(((hm1.trans hm2 (fun _ _ h=>h)).trans hm3 (fun d hd e=>by omega)).trans hm4 (fun d hd e=>by omega)).trans hm5 (fun d hd e=>by omega)
   ·cases hc
  |some B=>
   rw[hop] at e
   cases e
   have k2:=hb2.no hm2
   obtain⟨s3,e3,g3,hm3,n3⟩:=(hb3.no hm2).stm (X:=X) (t:=23) (i:=0) (w:= .int .i64 0) rfl eM rfl rfl
   have k3:=k2.mod hm3 (by omega)
   have l3:=g3.ld (X:=X) (i:=0) rfl oh rfl eM
   change aO X _ _ _=some (.old (.int .i64 0)) at l3
   have hm03:Am.Mod No s s3:=(hm1.trans hm2 (fun _ _ h=>h)).trans hm3 (fun d hd e=>by omega)
   have n02:=hm2.nx
   obtain⟨hTB,hBok,hBl⟩:=Cq hop
   refine bD (by simp(disch:=omega) only[uB,uT,e3];exact rfl) ?_
   repeat(first|refine uS ?_ |refine aa rfl ?_ |refine ad (by simp(disch:=omega) only[uB,uT,l3];exact rfl) ?_)
   refine uJ [0,2,3,4,14] ?_
   refine ae rfl rfl (fun hc=>?_) (fun hc=>?_)
   ·cases hc
   ·refine uH ?_
    refine ad (by simp(disch:=omega) only[uB,uT,P4];exact rfl) ?_
    refine bD (r:= .fin _ _) GK ?_
    (repeat(first|refine uS ?_ |refine aa rfl ?_));refine ad (by simp(disch:=omega) only[uB,uT,IM,I9,Nc];exact rfl) ?_;(repeat(first|refine uS ?_ |refine aa rfl ?_))
    refine eE fun s4 hn4 hm4 hb4=>?_
    have hm04:=hm03.trans hm4 (fun _ _ h=>h)
    have g24:=k3.no hm4
    have g34:=g3.no hm4
    refine uG ?_
    refine aj (xC ho.rd (hm04.tidy htd) hb4 (by omega)) ?_ ?_
    ·intro v s5 hx
     cases hrc:gI B with
     |none=>rw[hrc] at hx;obtain⟨_,e,_⟩:=hx;cases e
     |some p=>
      obtain⟨c,B'⟩:=p
      rw[hrc] at hx
      obtain⟨z,s5',Z,e,hcH,hR,hzz,hm5⟩:=hx
      cases e
      obtain⟨hcok,hcl⟩:=sg hrc
      have g25:=g24.mod hm5 (by omega)
      have g35:=g34.mod hm5 (by omega)
      obtain⟨s6,e6,g6,hm6,n6⟩:=g25.Aq (X:=X) (t:=40) (m:=bY c z) rfl cn hcH.qI
      have g36:=g35.mod hm6 (by omega)
      have hcA:sY s6 c z:=⟨hcH.mod hm6 (fun d hd e=>by have:=hzz d (.inl hd);omega),⟨Z,hR.mod hm6 (fun d hd e=>by have:=hzz d (.inr hd);omega),fun d hd=>by have:=hzz d (.inr hd);omega⟩,fun d hd=>by have:=hzz d (.inl hd);omega,hcok⟩
      have hm06:Am.Mod No s s6:=(hm04.trans hm5 (fun d hd e=>by omega)).trans hm6 (fun d hd e=>by omega)
      refine bD (by simp(disch:=omega) only[uB,uT,e6];exact rfl) ?_
      repeat(first|refine uS ?_ |refine aa rfl ?_ |refine ad (by simp(disch:=omega) only[uB,uT,g6.all bZ rfl cn];exact rfl) ?_)
      refine aj (Fz ho.put (hm06.tidy htd) hcA (by omega)) ?_ ?_
      ·rintro r s7 ⟨s7',e,hm7⟩
       cases e
       have hm07:=hm06.trans hm7 (fun _ _ h=>h)
       have g7:=g6.no hm7
       have g37:=g36.no hm7
       have hcA7:=hcA.no hm7
       have hgood:(fw c).2=0→(fw c).1.beq T=true→qZ T=some c:=fun h1 h2=>by
        unfold qZ;rw[hop];simp only;rw[hrc];simp only;rw[if_pos ⟨h1,h2⟩]
       have hbadg:¬((fw c).2=0∧(fw c).1.beq T=true)→qZ T=none:=fun h=>by
        unfold qZ;rw[hop];simp only;rw[hrc];simp only;rw[if_neg h]
       have bad:qZ T=none→∀ {L:Sl},lk L 2=some (.ptr (some (s.nx,0)))→lk L 3=some (.ptr (some (s.nx+1,0)))→∀ {s9},Am.Mod No s s9→Bx s9 s.nx (bY noC noZ)→Bx s9 (s.nx+1) [.int .i64 3]→Fin (uI X O Try.f17 fun r=>∃c z s' e,r= .ret (.tup [.agg (bY c z), .int .i64 e]) s'∧sY s' c z∧(∀d,z.has d→s.nx≤d)∧Am.Mod No s s'∧Nm T c e) .ret L [.fn (getD s.nx (s.nx+1))] s9:=fun hg L hL2 hL3 s9 hm9 q2 q3=>by
        refine yx rfl hL2 hL3 (Ee.mono fun m s' hms=>?_)
        obtain⟨rfl,rfl⟩:=hms
        exact⟨rfl,_,_,q2.all bZ rfl cn,q3.ld (i:=0) rfl oh rfl eM,noC,noZ,_,3,rfl,zT,fun d hd=>(by rcases hd with hd|hd|hd<;>cases hd),hm9, .inr ⟨hg,rfl,rfl⟩⟩
       obtain⟨s8,e8,g8,hm8,n8⟩:=g7.Aq (X:=X) (t:=40) (m:=bY noC noZ) rfl cn HT
       have g38:=g37.mod hm8 (by omega)
       obtain⟨s9,e9,g9,hm9,n9⟩:=g38.stm (X:=X) (t:=23) (i:=0) (w:= .int .i64 3) rfl eM rfl rfl
       have g89:=g8.mod hm9 (by omega)
       have hm09:Am.Mod No s s9:=(hm07.trans hm8 (fun d hd e=>by omega)).trans hm9 (fun d hd e=>by omega)
       refine uL ?_
       cases d1:decide ((fw c).2=0) with
       |false=>
        have hn:¬(fw c).2=0:=by simpa using d1
        repeat(first|refine uS ?_ |refine aa rfl ?_ |refine ad (by simp(disch:=omega) only[uB,uT,d1,Bool.not_false,aP];exact rfl) ?_)
        refine uJ [2,3,35] ?_
        refine ae rfl rfl (fun hc=>?_) (fun hc=>?_)
        ·repeat(first|refine uS ?_ |refine aa rfl ?_ |refine ad (by simp(disch:=omega) only[uB,uT,sy,e8,e9];exact rfl) ?_)
         exact bad (hbadg fun h=>hn h.1) rfl rfl hm09 g89 g9
        ·cases hc
       |true=>
        have hn:(fw c).2=0:=by simpa using d1
        repeat(first|refine uS ?_ |refine aa rfl ?_ |refine ad (by simp(disch:=omega) only[uB,uT,d1,Bool.not_true];exact rfl) ?_)
        refine uJ [2,3,35] ?_
        refine ae rfl rfl (fun hc=>?_) (fun hc=>?_)
        ·repeat(first|refine uS ?_ |refine aa rfl ?_ |refine ad (by simp(disch:=omega) only[uB,uT,sy,e8,e9];exact rfl) ?_)
         exact bad (hbadg fun h=>by rw[h.2] at hc;cases hc) rfl rfl hm09 g89 g9
        ·have hbq:(fw c).1.beq T=true:=by simpa using hc
         obtain⟨s10,e10,g10,hm10,n10⟩:=g7.Aq (X:=X) (t:=40) (m:=bY c z) rfl cn hcH.qI
         have g310:=g37.mod hm10 (by omega)
         obtain⟨s11,e11,g11,hm11,n11⟩:=g310.stm (X:=X) (t:=23) (i:=0) (w:= .int .i64 0) rfl eM rfl rfl
         have g1011:=g10.mod hm11 (by omega)
         have hm011:Am.Mod No s s11:=(hm07.trans hm10 (fun d hd e=>by omega)).trans hm11 (fun d hd e=>by omega)
         have n57:=hm7.nx
         have hcA11:sY s11 c z:=⟨((hcA7.h.mod hm10 (fun d hd e=>by have:=hzz d (.inl hd);omega)).mod hm11 (fun d hd e=>by have:=hzz d (.inl hd);omega)),⟨Z,(((hR.mod hm6 (fun d hd e=>by have:=hzz d (.inr hd);omega)).mod hm7 (fun _ _ h=>h)).mod hm10 (fun d hd e=>by have:=hzz d (.inr hd);omega)).mod hm11 (fun d hd e=>by have:=hzz d (.inr hd);omega),fun d hd=>by have:=hzz d (.inr hd);omega⟩,fun d hd=>by have:=hzz d (.inl hd);omega,hcok⟩
         repeat(first|refine uS ?_ |refine aa rfl ?_ |refine ad (by simp(disch:=omega) only[uB,uT,g7.all bZ rfl cn,e10,e11];exact rfl) ?_)
         refine yx rfl rfl rfl (Ee.mono fun m s' hms=>?_)
         obtain⟨rfl,rfl⟩:=hms
         exact⟨rfl,_,_,g1011.all bZ rfl cn,g11.ld (i:=0) rfl oh rfl eM,c,z,_,0,rfl,hcA11,fun d hd=>by have:=hzz d (.inl hd);omega,hm011, .inl ⟨hgood hn hbq,rfl⟩⟩
      ·rintro r s' ⟨_,e,_⟩
       cases e
    ·intro v s5 hx
     cases hrc:gI B with
     |some p=>rw[hrc] at hx;obtain⟨_,_,_,e,_⟩:=hx;cases e
     |none=>
      rw[hrc] at hx
      obtain⟨s5',e,hm5⟩:=hx
      cases e
      have hget:qZ T=none:=by unfold qZ;rw[hop];simp only;rw[hrc]
      have g25:=g24.mod hm5 (by omega)
      have g35:=g34.mod hm5 (by omega)
      have hm05:=hm04.trans hm5 (fun d hd e=>by omega)
      refine uH ?_
      refine FO rfl rfl rfl ((J9 g25 rfl g35 (by omega)).mono fun m s' hms=>?_)
      obtain⟨rfl,q2,q3,hmq⟩:=hms
      exact⟨rfl,_,_,q2.all bZ rfl cn,q3.ld (i:=0) rfl oh rfl eM,noC,noZ,_,3,rfl,zT,fun d hd=>(by rcases hd with hd|hd|hd<;>cases hd),hm05.trans hmq (fun d hd e=>by omega), .inr ⟨hget,rfl,rfl⟩⟩
 ·rintro r s' ⟨_,e,_⟩
  cases e
end
end Go.Proofs.Ytofohkdkpbigiaa
end
section
namespace Go.Proofs.Ytofohkdkpbigiaa
open Go.Am
set_option maxRecDepth 10000
set_option maxHeartbeats 1000000
set_option linter.unusedSimpArgs false
def mP (u k:Nat):List Nat:=List.replicate (8- k) 0++(be8 u).drop (8- k)
theorem tB {u k i:Nat}(hi:i<8):(mP u k)[i]? =some (if i<8- k then 0 else u/256^ (7- i) % 256):=by
 unfold mP
 by_cases h:i<8- k
 ·rw[if_pos h,List.getElem?_append_left (by simpa using h)]
  rw[List.getElem?_replicate,if_pos h]
 ·rw[if_neg h,List.getElem?_append_right (by simpa using h),List.length_replicate,List.getElem?_drop,show 8- k+(i- (8- k))=i by omega,be8,List.getElem?_map,List.getElem?_range hi]
  rfl
theorem tC {u k:Nat}:(mP u k).length=8:=by unfold mP;simp[be8]
theorem F4 {u k:Nat}(hk:k<8):(mP u k).set (7- k) (u/256^k % 256)=mP u (k+1):=by
 refine List.ext_getElem? fun i=>?_
 rw[List.getElem?_set]
 by_cases hi:i<8
 ·rw[tB hi (k:=k+1)]
  by_cases e:7- k=i
  ·rw[if_pos e,if_pos (by rw[tC];omega),if_neg (by omega),show 7- i=k by omega]
  ·rw[if_neg e,tB hi]
   by_cases h:i<8- k
   ·rw[if_pos h,if_pos (by omega)]
   ·rw[if_neg h,if_neg (by omega)]
 ·rw[List.getElem?_eq_none (l:=mP u k) (by rw[tC];omega),if_neg (by omega),List.getElem?_eq_none (by rw[tC];omega)]
theorem Kl (u:Nat):mP u 0=List.replicate 8 0:=by unfold mP;simp[be8]
theorem Mj (u:Nat):mP u 8=be8 u:=by unfold mP;simp
section
variable {O:bj}
theorem GG:X.fns.get 61=some Try.f61:=by kernel_rfl
theorem Iv:X.fns.get 40=some Try.f40:=by kernel_rfl
theorem KW:X.fns.get 24=some Try.f24:=by kernel_rfl
theorem H3:X.fns.get 25=some Try.f25:=by kernel_rfl
theorem HD:X.fns.get 26=some Try.f26:=by kernel_rfl
theorem E4:X.fns.get 27=some Try.f27:=by kernel_rfl
theorem qw {b off:Nat}:af X 85 (.ptr (some (b,off))) 0=some (.pure (.ptr (some (b,off)))):=by
 simp only[af,Ds,bh,List.getElem?_cons_zero,List.getElem?_cons_succ,cQ,Nat.add_zero]
structure DWO (O:bj):Prop where
 eight:O 61=none
 Eight:O 40=none
 num:O 24=none
 text:O 25=none
 bool:O 26=none
 value:O 27=none
theorem mk8 {s:St}:eF X 83 (.int .i64 8) (.int .i64 8) s=some (.val (.slc (some (s.nx,0,1)) 8 8 true) {s with h:=s.h.put s.nx (.cells (Tr.of ((List.replicate 8 0).map bA)) 8),nx:=s.nx+1}):=by
 show eF X 83 (.int .i64 (.ofNat 8)) (.int .i64 (.ofNat 8)) s=_
 simp only[eF,cM,tH,yP,nf,iF]
 rfl
theorem C2 (ho:O 61=none){s:St}{u:Nat}(hu:u<18446744073709551616):
  Ca X O (.fn 61) [.int .u64 (u:Int)] s fun r=>∃s',r= .ret (.str (wd u)) s'∧Am.Mod No s s':=by
 refine bb ho GG rfl ?_
 unfold aD aD
 refine fO ?_;refine ad (by simp(disch:=omega) only[uB,uT];exact rfl) ?_;refine dR ?_;refine cJ ?_
 (repeat(first|refine uS ?_ |refine aa rfl ?_));refine ad (by simp(disch:=omega) only[uB,uT,mk8];exact rfl) ?_;(repeat(first|refine uS ?_ |refine aa rfl ?_))
 refine eE fun s1 hn1 hm1 hb1=>?_
 refine uG ?_
 let I:Nat→Sl→St→Prop:=fun k L s'=>Am.Mod (fun d=>d=s.nx) s1 s'∧k≤8∧Bx s' s.nx ((mP u k).map bA)∧L=[(0, .int .u64 ((u/256^k:Nat):Int)),(3, .slc (some (s.nx,0,1)) 8 8 true),(4, .int .i64 (7- (k:Int)))]
 refine WL.less (M:=[(0, .int .u64 ((u:Nat):Int)),(3, .slc (some (s.nx,0,1)) 8 8 true),(4, .int .i64 7)]) ?_ rfl
 refine aV I (fun k=>8- k) ?_ 8 0 _ s1 (by simp) ⟨Mod.refl _ _,Nat.zero_le _,by rw[Kl];exact hb1,by simp⟩
 rintro k L s2 ⟨hm2,hk,hb2,rfl⟩
 refine uG ?_
 refine uJ [0,3,4,7] ?_
 refine ae rfl rfl (fun hc=>?_) (fun hc=>?_)
 ·simp at hc
  have hidx:((7:Int)- (k:Int)).toNat=7- k:=by omega
  have hv:((mP u k).map bA)[7- k]? =some (bA (if 7- k<8- k then 0 else u/256^ (7- (7- k)) % 256)):=by rw[List.getElem?_map,tB (by omega)];rfl
  obtain⟨s3,e3,g3,hm3,n3⟩:=hb2.stm (X:=X) (t:=5) (i:=7- k) (w:=bA (u/256^k % 256)) hv qN rfl rfl
  have g3':Bx s3 s.nx ((mP u (k+1)).map bA):=by
   rw[←F4 (by omega),List.map_set];exact g3
  have h8:∀ {c:Bool},aW X .shr 75 c (.int .u64 ((u/256^k:Nat):Int)) (.int .u64 8)=some (.int .u64 ((u/256^k/2^8:Nat):Int)):=fun{c}=>lM (m:=8) (by decide)
  have hdd:u/256^k/2^8=u/256^ (k+1):=by
   rw[Nat.div_div_eq_div_mul]
   show u/ (256^k*256)=_
   rw[←Nat.pow_succ]
  rw[hdd] at h8
  repeat(first|refine uS ?_ |refine aa rfl ?_ |refine ad (by simp(disch:=omega) only[uB,uT,D7 fa jB,aQ cM qN,hidx,Nat.mul_one,Nat.zero_add,e3,h8];exact rfl) ?_)
  exact aH (k+1) [(0, .int .u64 ((u/256^ (k+1):Nat):Int)),(3, .slc (some (s.nx,0,1)) 8 8 true),(4, .int .i64 (7- (k:Int)- 1))] ⟨hm2.trans hm3 (fun _ _ e=>e),by omega,g3',by simp;omega⟩ (by show 8- (k+1)<8- k;omega) (by simp[aI,az])
 ·simp at hc
  have:k=8:=by omega
  subst this
  rw[Mj] at hb2
  have hst:=hb2.str (X:=X) (n:=8) (c:=8) (x:=true) (MH u) rfl (by decide) cM aE jB
  rw[BL hu] at hst
  repeat(first|refine uS ?_ |refine aa rfl ?_ |refine ad (by simp(disch:=omega) only[uB,uT,hst];exact rfl) ?_)
  refine ai rfl ?_
  exact⟨s2,rfl,hm1.trans hm2 (fun d hd e=>by omega)⟩
theorem rk (ho:DWO O){s:St}{n:Int}:
  Ca X O (.fn 40) [.int .i64 n] s fun r=>∃s',r= .ret (.str (aY n)) s'∧Am.Mod No s s':=by
 refine bb ho.Eight Iv rfl ?_
 unfold aD aD
 repeat(first|refine uS ?_ |refine aa rfl ?_ |refine ad (by simp(disch:=omega) only[uB,uT,Cy lS fa];exact rfl) ?_)
 refine aj (C2 ho.eight (qU n)) ?_ ?_
 ·rintro r s1 ⟨s1',e,hm1⟩
  cases e
  refine uL ?_
  refine uG ?_
  refine ai rfl ?_
  exact⟨s1,rfl,hm1⟩
 ·rintro r s' ⟨_,e,_⟩
  cases e
theorem DJ (n:Int):aY n≠bu:=fun e=>by
 have:=congrArg Str.len e
 cases this
theorem xR (ho:DWO O){s:St}{b:Nat}{H:Nat→Prop}{S:Str}(h:Wri s b H S)(hl:S.len+8≤1000000){n:Int}:
  Ca X O (.fn 24) [.ptr (some (b,0)), .int .i64 n] s (WP s b H (S.app [aY n])):=by
 refine bb ho.num KW rfl ?_
 unfold aD aD aD
 obtain⟨x0,g0,b0,_⟩:=h.ex
 obtain⟨a0,c0,x0',e0⟩:=b0.slc
 rw[e0] at g0
 have sm:=o7 (a:=a0) (n:=S.len) (c:=c0) (x:=x0')
 refine aU [(0,none),(1,none),(2,none),(3,none),(4,none),(5,none),(6,some [false,true,true,true,true,true]),(7,some [false,true,true,true,true]),(8,none),(9,none),(10,some [false,true,false,false,false,false])] (by kernel_rfl) (by kernel_rfl) (by simp(disch:=omega) only[uB,uT,Nat.reduceEqDiff,↓reduceIte,uD,mask,aC,aB,bN,qw,Nat.zero_add,g0.ld (i:=0) rfl cM rfl cQ];exact rfl) ?_
 refine cg (rk ho) ?_ ?_
 ·rintro r s1 ⟨s1',e,hm1⟩
  cases e
  obtain⟨a3,c3,x3,s3,a4,n4,c4,x4,s4,g1,e3,e4,hm3,hw⟩:=(h.no hm1).put (cR n) hl (DJ n)
  have ga:=g0.no hm1
  have hlq:=ga.ld (X:=X) (i:=0) rfl cM rfl cQ
  have hlp:=g1.ld (X:=X) (i:=0) rfl cM rfl cQ
  rw[hlq] at hlp
  simp only[Option.some.injEq,OR.old.injEq] at hlp
  rw[←hlp] at e3
  refine⟨_,(by simp(disch:=omega) only[uB,uT,Nat.reduceEqDiff,↓reduceIte,uE,aC,aB,bN,qw,Nat.zero_add,hlq,ot,e3,e4];exact rfl),?_⟩
  refine uG ?_
  obtain⟨s4',H4,er,h4,hm4,hH4⟩:=hw
  cases er
  exact fC rfl ⟨s4,H4,rfl,h4,(hm1.mono (C:=H) (fun _ _ e=>e.elim)).trans hm4 (fun _ _ e=>e),fun c hc=>(hH4 c hc).imp id (fun e=>Nat.le_trans hm1.nx e)⟩
 ·rintro r s' ⟨_,e,_⟩
  cases e
end
end Go.Proofs.Ytofohkdkpbigiaa
end
section
namespace Go.Proofs.Ytofohkdkpbigiaa
open Go.Am
set_option maxRecDepth 10000
set_option maxHeartbeats 1000000
set_option linter.unusedSimpArgs false
section
variable {O:bj}
theorem WS.qi (ho:DWO O){s0 s:St}{H0:Nat→Prop}{b:Nat}{S:Str}(h:WS s0 H0 b s S){n:Int}(hl:S.len+8≤1000000):Ca X O (.fn 24) [.ptr (some (b,0)), .int .i64 n] s (WSP s0 H0 b (S.app [aY n])):=
 h.call fun _ hw=>xR ho hw hl
theorem Wri.iY {s:St}{b:Nat}{H:Nat→Prop}{S v:Str}(h:Wri s b H S)(hv:v.ok)(hl:S.len+v.len≤1000000):
  ∃a c x,Bx s b [.slc a S.len c x]∧((v=bu∧∃s3,cK X 83 (.ptr (some (b,0))) (.slc a S.len c x) s=some (.val (.tup []) s3)∧WP s b H (S.cat v) (.ret (.tup []) s3))∨
   ∃s2 a2 n2 c2 x2 s3,cN X 83 (.slc a S.len c x) (.str v) s=some (.val (.slc a2 n2 c2 x2) s2)∧cK X 83 (.ptr (some (b,0))) (.slc a2 n2 c2 x2) s2=some (.val (.tup []) s3)∧WP s b H (S.cat v) (.ret (.tup []) s3)):=by
 by_cases h0:v=bu
 ·subst h0
  obtain⟨x0,g1,g2,g3⟩:=h.ex
  obtain⟨ax,cx,xx,ex⟩:=g2.slc
  rw[ex] at g1
  obtain⟨s3,e3,k3,hm3,n3⟩:=g1.stm (X:=X) (t:=83) (i:=0) (w:= .slc ax S.len cx xx) rfl cQ rfl rfl
  refine⟨ax,cx,xx,g1, .inl ⟨rfl,s3,e3,s3,H,rfl,?_,hm3.mono (fun c _ e=>by subst e;exact h.own),fun c hc=> .inl hc⟩⟩
  rw[se]
  exact⟨⟨_,k3,(by rw[←ex];exact(g2.mod hm3 (fun c hc=>(g3 c hc).2)):Buf s3 _ _),fun c hc=>g3 c (by rw[ex];exact hc)⟩,h.own,fun c hc=>by rw[n3];exact h.lt c hc⟩
 ·obtain⟨a3,c3,x3,s3,a4,n4,c4,x4,s4,g1,e3,e4,hm3,hw⟩:=h.put hv hl h0
  exact⟨a3,c3,x3,g1, .inr ⟨s3,a4,n4,c4,x4,s4,e3,e4,hw⟩⟩
theorem CN (ho:DWO O){s:St}{b:Nat}{H:Nat→Prop}{S:Str}(h:Wri s b H S){v:Str}(hv:v.ok)(hl:S.len+(8+v.len)≤1000000):
  Ca X O (.fn 25) [.ptr (some (b,0)), .str v] s (WP s b H (S.app (cU v))):=by
 refine bb ho.text H3 rfl ?_
 unfold aD aD aD
 repeat(first|refine uS ?_ |refine aa rfl ?_ |refine ad (by simp(disch:=omega) only[uB,uT,aJ aE];exact rfl) ?_)
 refine aj (xR ho h (by omega)) ?_ ?_
 ·rintro r s2 ⟨s2',H2,er,h2,hm2,hH2⟩
  cases er
  have hl2:(S.app [aY (v.len:Int)]).len=S.len+8:=by rw[bf];rfl
  have fin:∀ {s4:St},WP s2 b H2 ((S.app [aY (v.len:Int)]).cat v) (.ret (.tup []) s4)→WP s b H (S.app (cU v)) (.ret (.tup []) s4):=by
   rintro s4 ⟨s4',H4,er,h4,hm4,hH4⟩
   cases er
   exact⟨s4,H4,rfl,h4,hm2.trans hm4 (fun c hc h=>(hH2 c h).elim id (fun h=>by omega)),fun c hc=>(hH4 c hc).elim (hH2 c) (fun h=> .inr (by have:=hm2.nx;omega))⟩
  refine uL ?_
  obtain⟨a,c,x,g1,⟨h0,s3,e3,hw⟩|⟨s3,a2,n2,c2,x2,s4,e3,e4,hw⟩⟩:=h2.iY hv (by omega)
  ·subst h0
   repeat(first|refine uS ?_ |refine aa rfl ?_ |refine ad (by simp(disch:=omega) only[uB,uT,bN,qw,Nat.zero_add,g1.ld (i:=0) rfl cM rfl cQ,ot,vv cM tH (Af (v:=bu)),e3];exact rfl) ?_)
   exact fC rfl (fin hw)
  ·repeat(first|refine uS ?_ |refine aa rfl ?_ |refine ad (by simp(disch:=omega) only[uB,uT,bN,qw,Nat.zero_add,g1.ld (i:=0) rfl cM rfl cQ,ot,e3,e4];exact rfl) ?_)
   exact fC rfl (fin hw)
 ·rintro r s' ⟨_,_,er,_⟩
  cases er
theorem WS.xb (ho:DWO O){s0 s:St}{H0:Nat→Prop}{b:Nat}{S v:Str}(h:WS s0 H0 b s S)(hv:v.ok)(hl:S.len+(8+v.len)≤1000000):Ca X O (.fn 25) [.ptr (some (b,0)), .str v] s (WSP s0 H0 b (S.app (cU v))):=
 h.call fun _ hw=>CN ho hw hv hl
theorem WS.ON (ho:DWO O){s0 s:St}{H0:Nat→Prop}{b:Nat}{S:Str}(h:WS s0 H0 b s S){v:Bool}(hl:S.len+8≤1000000):Ca X O (.fn 26) [.ptr (some (b,0)), .bool v] s (WSP s0 H0 b (S.app [aY (if v=true then 1 else 0)])):=by
 refine bb ho.bool HD rfl ?_
 unfold aD aD aD
 refine uG ?_
 refine uJ [0,4] ?_
 refine ae rfl rfl (fun hc=>?_) (fun hc=>?_)
 ·refine uG ?_
  refine aj (h.qi ho hl) ?_ ?_
  ·rintro r s1 ⟨s1',e,h1⟩
   cases e
   refine uL ?_
   refine uH ?_
   rw[if_pos hc]
   exact fC rfl ⟨s1,rfl,h1⟩
  ·rintro r s' ⟨_,e,_⟩
   cases e
 ·refine uG ?_
  refine aj (h.qi ho hl) ?_ ?_
  ·rintro r s1 ⟨s1',e,h1⟩
   cases e
   refine uL ?_
   refine uH ?_
   rw[if_neg (by rw[hc];exact Bool.false_ne_true)]
   exact fC rfl ⟨s1,rfl,h1⟩
  ·rintro r s' ⟨_,e,_⟩
   cases e
theorem Ax (ho:DWO O){s0 s:St}{H0:Nat→Prop}{b:Nat}{S:Str}(h:WS s0 H0 b s S){v:Vl}(hv:tc v)(hl:S.len+aM (ib v)≤1000000):
  Ca X O (.fn 27) [.ptr (some (b,0)), .agg (vl v)] s (WSP s0 H0 b (S.app (ib v))):=by
 obtain⟨v1,v2,v3,v4,v5,v6⟩:=hv
 rw[nT] at hl
 refine bb ho.value E4 rfl ?_
 unfold aD aD aD
 (repeat(first|refine uS ?_ |refine aa rfl ?_));refine ad (by simp(disch:=omega) only[uB,uT,cX (cs:=vl v) rfl];exact rfl) ?_;(repeat(first|refine uS ?_ |refine aa rfl ?_))
 refine eE fun s1 hn1 hm1 hb1=>?_
 obtain⟨H1,h1,hup,_,hlow⟩:=h.Ei hm1
 have gb:∀ {s' S'},WS s1 H1 b s' S'→Bx s' s.nx (vl v):=fun hx=>hb1.mod hx.m (fun e=>Nat.lt_irrefl _ (hlow _ e))
 repeat(first|refine uS ?_ |refine aa rfl ?_ |refine ad (by simp(disch:=omega) only[uB,uT,ed,Nat.zero_add,hb1.ld (i:=0) rfl aN rfl ay];exact rfl) ?_)
 refine aj (h1.qi ho (by omega)) ?_ ?_
 ·rintro r s2 ⟨s2',e,h2⟩
  cases e
  have l2:(S.app [aY v.kind]).len=S.len+8:=by rw[bf];rfl
  refine uL ?_
  refine uH ?_
  obtain⟨Hw,hw2,hHw⟩:=h2.w
  obtain⟨x0,g0,b0,_⟩:=hw2.ex
  obtain⟨a0,c0,x0',e0⟩:=b0.slc
  rw[e0] at g0
  have g2:=(gb h2).ld (X:=X) (i:=1) rfl lS rfl jH
  refine aU [(0,none),(1,none),(2,none),(3,none),(4,none),(5,none),(6,none),(7,some [false,true,true,true,true,true,true]),(8,some [true,false,true,true,true,true]),(9,none),(10,none),(11,some [false,true,false,false,false,false,false])] (by kernel_rfl) (by kernel_rfl) (by simp(disch:=omega) only[uB,uT,Nat.reduceEqDiff,↓reduceIte,uD,mask,aC,aB,bN,qw,eB,Nat.zero_add,g0.ld (i:=0) rfl cM rfl cQ,g2];exact rfl) ?_
  refine cg (rk ho) ?_ ?_
  ·rintro r s3 ⟨s3',e,hm3⟩
   cases e
   have h3:=h2.no hm3
   obtain⟨a3,c3,x3,s4,a4,n4,c4,x4,s5,g1,e3,e4,hm34,hw⟩:=(hw2.no hm3).put (cR v.n) (by rw[l2];show _+8≤_;omega) (DJ v.n)
   have hlq:=(g0.no hm3).ld (X:=X) (i:=0) rfl cM rfl cQ
   have hlp:=g1.ld (X:=X) (i:=0) rfl cM rfl cQ
   rw[hlq] at hlp
   simp only[Option.some.injEq,OR.old.injEq] at hlp
   rw[←hlp] at e3
   have g3:=(gb h3).ld (X:=X) (i:=1) rfl lS rfl jH
   have g4:aO X 2 (.ptr (some (s.nx,1))) s4=some (.old (.int .i64 v.n)):=((gb h3).mod hm34 (fun e=>(hHw _ e).elim (fun e=>Nat.lt_irrefl _ (hlow _ e)) (fun e=>by omega))).ld (i:=1) rfl lS rfl jH
   have h5:WS s1 H1 b s5 ((S.app [aY v.kind]).cat (aY v.n)):=h3.wp hHw hw
   refine⟨_,(by simp(disch:=omega) only[uB,uT,Nat.reduceEqDiff,↓reduceIte,uE,aC,aB,bN,qw,eB,Nat.zero_add,hlq,g3,g4,ot,e3,e4];exact rfl),?_⟩
   refine uH ?_
   obtain⟨Hw5,hw5,hHw5⟩:=h5.w
   obtain⟨x5,g05,b05,_⟩:=hw5.ex
   obtain⟨a05,c05,x05,e05⟩:=b05.slc
   rw[e05] at g05
   have l5:((S.app [aY v.kind]).cat (aY v.n)).len=S.len+16:=by rw[jN,l2];rfl
   have g25:=(gb h5).ld (X:=X) (i:=2) rfl fa rfl gF
   refine aU [(0,none),(1,none),(2,none),(3,none),(4,none),(5,none),(6,none),(7,none),(8,some [false,true,true,true,true,true,true,true]),(9,some [true,true,false,true,true,true,true]),(10,none),(11,none),(12,some [false,true,false,false,false,false,false,false])] (by kernel_rfl) (by kernel_rfl) (by simp(disch:=omega) only[uB,uT,Nat.reduceEqDiff,↓reduceIte,uD,mask,aC,aB,bN,qw,fc,Nat.zero_add,g05.ld (i:=0) rfl cM rfl cQ,g25,ze fa lS];exact rfl) ?_
   refine cg (rk ho) ?_ ?_
   ·rintro r s6 ⟨s6',e,hm6⟩
    cases e
    have h6:=h5.no hm6
    have hnf:aY (i64 v.f)=wd v.f:=by unfold aY;rw[JI v2]
    rw[hnf]
    obtain⟨a7,c7,x7,s7,a8,n8,c8,x8,s8,g17,e7,e8,hm67,hw8⟩:=(hw5.no hm6).put (wm v2) (by rw[l5];show _+8≤_;omega) (fun e=>by cases congrArg Str.len e)
    have hlq6:=(g05.no hm6).ld (X:=X) (i:=0) rfl cM rfl cQ
    have hlp6:=g17.ld (X:=X) (i:=0) rfl cM rfl cQ
    rw[hlq6] at hlp6
    simp only[Option.some.injEq,OR.old.injEq] at hlp6
    rw[←hlp6] at e7
    have g26:=(gb h6).ld (X:=X) (i:=2) rfl fa rfl gF
    have g27:aO X 75 (.ptr (some (s.nx,2))) s7=some (.old (.int .u64 (v.f:Int))):=((gb h6).mod hm67 (fun e=>(hHw5 _ e).elim (fun e=>Nat.lt_irrefl _ (hlow _ e)) (fun e=>by omega))).ld (i:=2) rfl fa rfl gF
    have h8:WS s1 H1 b s8 (((S.app [aY v.kind]).cat (aY v.n)).cat (wd v.f)):=h6.wp hHw5 hw8
    have l8:(((S.app [aY v.kind]).cat (aY v.n)).cat (wd v.f)).len=S.len+24:=by rw[jN,l5];rfl
    refine⟨_,(by simp(disch:=omega) only[uB,uT,Nat.reduceEqDiff,↓reduceIte,uE,aC,aB,bN,qw,fc,Nat.zero_add,hlq6,g26,g27,ze fa lS,ot,e7,e8];exact rfl),?_⟩
    repeat(first|refine uS ?_ |refine aa rfl ?_ |refine ad (by simp(disch:=omega) only[uB,uT,eQ,Nat.zero_add,(gb h8).ld (i:=3) rfl aE rfl aF];exact rfl) ?_)
    refine aj (h8.xb ho v1 (by omega)) ?_ ?_
    ·rintro r s9 ⟨s9',e,h9⟩
     cases e
     refine uL ?_
     refine uH ?_
     exact fC rfl ⟨s9,rfl,hup _ _ h9⟩
    ·rintro r s' ⟨_,e,_⟩
     cases e
   ·rintro r s' ⟨_,e,_⟩
    cases e
  ·rintro r s' ⟨_,e,_⟩
   cases e
 ·rintro r s' ⟨_,e,_⟩
  cases e
end
end Go.Proofs.Ytofohkdkpbigiaa
end
section
namespace Go.Proofs.Ytofohkdkpbigiaa
open Go.Am
set_option maxRecDepth 10000
set_option maxHeartbeats 1000000
set_option linter.unusedSimpArgs false
theorem Mi (f:Nat):Nat.land f 9223372036854775807=f % 9223372036854775808:=by
 have:=Nat.and_two_pow_sub_one_eq_mod f 63
 have e1:(2:Nat)^63- 1=9223372036854775807:=by decide
 have e2:(2:Nat)^63=9223372036854775808:=by decide
 rw[e1,e2] at this
 exact this
theorem HX {X:Ctx}{t:TypeId}{c:Bool}{f:Nat}(h:f<18446744073709551616):aW X .andNot t c (.int .u64 (f:Int)) (.int .u64 9223372036854775808)=some (.int .u64 ((f % 9223372036854775808:Nat):Int)):=by
 have e1:(((f:Int) % (2^IntKind.u64.bits:Int))).toNat=f:=by
  show(((f:Int) % 18446744073709551616)).toNat=_
  omega
 have e2:(((9223372036854775808:Int) % (2^IntKind.u64.bits:Int))).toNat=9223372036854775808:=by decide
 have e3:2^IntKind.u64.bits- 1- 9223372036854775808=9223372036854775807:=by decide
 simp only[aW,gh,kM,bitsOf,e1,e2,e3,Mi,if_true]
 rw[vV (Int.natCast_nonneg _) (by omega)]
section
variable {O:bj}
theorem Fj:X.fns.get 39=some Try.f39:=by kernel_rfl
theorem JT:X.fns.get 21=some Try.f21:=by kernel_rfl
theorem I2:X.fns.get 20=some Try.f20:=by kernel_rfl
theorem Ib:X.fns.get 22=some Try.f22:=by kernel_rfl
theorem Cp:X.fns.get 23=some Try.f23:=by kernel_rfl
theorem BG (ho:O 39=none){s:St}{f:Nat}(hf:f<18446744073709551616):
  Ca X O (.fn 39) [.int .u64 (f:Int)] s fun z=>z= .ret (.int .u64 (canon f:Int)) s:=by
 refine bb ho Fj rfl ?_
 unfold aD aD
 repeat(first|refine uS ?_ |refine aa rfl ?_ |refine ad (by simp(disch:=omega) only[uB,uT,HX hf];exact rfl) ?_)
 refine uJ [0,5] ?_
 refine ae rfl rfl (fun hc=>?_) (fun hc=>?_)
 ·refine uG ?_
  refine ai rfl ?_
  unfold canon
  rw[if_pos (by simp at hc;omega)];rfl
 ·have h1:¬9218868437227405312<f % 9223372036854775808:=by simp at hc;omega
  refine uG ?_
  refine uJ [0,7] ?_
  refine ae rfl rfl (fun hc2=>?_) (fun hc2=>?_)
  ·refine uG ?_
   refine ai rfl ?_
   unfold canon
   rw[if_neg h1,if_pos (by simp at hc2;omega)];rfl
  ·refine uG ?_
   refine ai rfl ?_
   unfold canon
   rw[if_neg h1]
   by_cases h2:f % 9223372036854775808=0
   ·rw[if_pos h2]
    have:f=0:=by simp at hc2;omega
    rw[this];rfl
   ·rw[if_neg h2];rfl
theorem mq (ho:O 20=none){s:St}{n:Int}:
  Ca X O (.fn 20) [.int .i64 n] s fun z=>z= .ret (.bool (dA n)) s:=by
 refine bb ho I2 rfl ?_
 unfold aD aD
 cases d:decide (0≤n) with
 |true=>
  repeat(first|refine uS ?_ |refine aa rfl ?_ |refine ad (by simp(disch:=omega) only[uB,uT,d];exact rfl) ?_)
  refine ai rfl ?_
  have e:decide (n≤1099511627776)=dA n:=by
   unfold dA
   have:decide (n<0)=false:=by simp at d ⊢;omega
   rw[this,Bool.eq_iff_iff];simp
  rw[e];rfl
 |false=>
  repeat(first|refine uS ?_ |refine aa rfl ?_ |refine ad (by simp(disch:=omega) only[uB,uT,d];exact rfl) ?_)
  refine ai rfl ?_
  have e:dA n=false:=by
   unfold dA
   have:decide (n<0)=true:=by simp at d ⊢;omega
   rw[this];rfl
  rw[e];rfl
structure yt (O:bj):Prop where
 canon:O 39=none
 may:O 21=none
 time:O 20=none
 rises:O 22=none
 writes:O 23=none
theorem F6 (ho:yt O){s:St}{v:Vl}(hv:v.f<18446744073709551616):
  Ca X O (.fn 21) [.agg (vl v)] s fun z=>∃s',z= .ret (.bool (fe v)) s'∧Am.Mod No s s':=by
 refine bb ho.may JT rfl ?_
 unfold aD aD
 (repeat(first|refine uS ?_ |refine aa rfl ?_));refine ad (by simp(disch:=omega) only[uB,uT,cX (cs:=vl v) rfl];exact rfl) ?_;(repeat(first|refine uS ?_ |refine aa rfl ?_))
 refine eE fun s1 hn1 hm1 h1=>?_
 have lk0:aO X 3 (.ptr (some (s.nx,0))) s1=some (.old (.int .i64 v.kind)):=h1.ld (i:=0) rfl aN rfl ay
 have ln:aO X 2 (.ptr (some (s.nx,1))) s1=some (.old (.int .i64 v.n)):=h1.ld (i:=1) rfl lS rfl jH
 have lf:aO X 75 (.ptr (some (s.nx,2))) s1=some (.old (.int .u64 (v.f:Int))):=h1.ld (i:=2) rfl fa rfl gF
 have ls:aO X 9 (.ptr (some (s.nx,3))) s1=some (.old (.str v.s)):=h1.ld (i:=3) rfl aE rfl aF
 have hf0:decide ((v.f:Int)=0)=decide (v.f=0):=by rw[Bool.eq_iff_iff,decide_eq_true_iff,decide_eq_true_iff];omega
 have hl40:decide ((v.s.len:Int)≤40)=decide (v.s.len≤40):=by rw[Bool.eq_iff_iff,decide_eq_true_iff,decide_eq_true_iff];omega
 repeat(first|refine uS ?_ |refine aa rfl ?_ |refine ad (by simp(disch:=omega) only[uB,uT,ed,Nat.zero_add,lk0];exact rfl) ?_)
 refine uJ [1,4,5] ?_
 refine ae rfl rfl (fun hc=>?_) (fun hc=>?_)
 ·have hk:v.kind=0:=by simpa using hc
  cases d1:decide (v.n=0) with
  |true=>
   cases d2:decide (v.f=0) with
   |true=>
    repeat(first|refine uS ?_ |refine aa rfl ?_ |refine ad (by simp(disch:=omega) only[uB,uT,ed,eB,fc,eQ,Nat.zero_add,lk0,ln,lf,ls,bk,aP,hf0,aJ aE,hl40,d1,d2];exact rfl) ?_)
    refine ai rfl ?_
    refine⟨s1,?_,hm1⟩
    unfold fe
    rw[if_pos hk]
    simp only[eV,d1,d2,Bool.true_and,Bool.false_and,Bool.and_true,Bool.true_or,Bool.false_or]
   |false=>
    repeat(first|refine uS ?_ |refine aa rfl ?_ |refine ad (by simp(disch:=omega) only[uB,uT,ed,eB,fc,eQ,Nat.zero_add,lk0,ln,lf,ls,bk,aP,hf0,aJ aE,hl40,d1,d2];exact rfl) ?_)
    refine ai rfl ?_
    refine⟨s1,?_,hm1⟩
    unfold fe
    rw[if_pos hk]
    simp only[eV,d1,d2,Bool.true_and,Bool.false_and,Bool.and_true,Bool.true_or,Bool.false_or]
  |false=>
   repeat(first|refine uS ?_ |refine aa rfl ?_ |refine ad (by simp(disch:=omega) only[uB,uT,ed,eB,fc,eQ,Nat.zero_add,lk0,ln,lf,ls,bk,aP,hf0,aJ aE,hl40,d1];exact rfl) ?_)
   refine ai rfl ?_
   refine⟨s1,?_,hm1⟩
   unfold fe
   rw[if_pos hk]
   simp only[eV,d1,Bool.true_and,Bool.false_and,Bool.and_true,Bool.true_or,Bool.false_or]
 ·have hk0:¬v.kind=0:=by simpa using hc
  refine uG ?_
  refine uJ [1,4,20] ?_
  refine ae rfl rfl (fun hc=>?_) (fun hc=>?_)
  ·have hk:v.kind=1:=by simpa using hc
   cases d1:decide (v.n=0) with
   |true=>
    cases d2:decide (v.f=0) with
    |true=>
     repeat(first|refine uS ?_ |refine aa rfl ?_ |refine ad (by simp(disch:=omega) only[uB,uT,ed,eB,fc,eQ,Nat.zero_add,lk0,ln,lf,ls,bk,aP,hf0,aJ aE,hl40,d1,d2];exact rfl) ?_)
     refine ai rfl ?_
     refine⟨s1,?_,hm1⟩
     unfold fe
     rw[if_neg hk0,if_pos hk]
     simp only[eV,d1,d2,Bool.true_and,Bool.false_and,Bool.and_true,Bool.true_or,Bool.false_or]
    |false=>
     repeat(first|refine uS ?_ |refine aa rfl ?_ |refine ad (by simp(disch:=omega) only[uB,uT,ed,eB,fc,eQ,Nat.zero_add,lk0,ln,lf,ls,bk,aP,hf0,aJ aE,hl40,d1,d2];exact rfl) ?_)
     refine ai rfl ?_
     refine⟨s1,?_,hm1⟩
     unfold fe
     rw[if_neg hk0,if_pos hk]
     simp only[eV,d1,d2,Bool.true_and,Bool.false_and,Bool.and_true,Bool.true_or,Bool.false_or]
   |false=>
    cases d3:decide (v.n=1) with
    |true=>
     cases d2:decide (v.f=0) with
     |true=>
      repeat(first|refine uS ?_ |refine aa rfl ?_ |refine ad (by simp(disch:=omega) only[uB,uT,ed,eB,fc,eQ,Nat.zero_add,lk0,ln,lf,ls,bk,aP,hf0,aJ aE,hl40,d1,d3,d2];exact rfl) ?_)
      refine ai rfl ?_
      refine⟨s1,?_,hm1⟩
      unfold fe
      rw[if_neg hk0,if_pos hk]
      simp only[eV,d1,d3,d2,Bool.true_and,Bool.false_and,Bool.and_true,Bool.true_or,Bool.false_or]
     |false=>
      repeat(first|refine uS ?_ |refine aa rfl ?_ |refine ad (by simp(disch:=omega) only[uB,uT,ed,eB,fc,eQ,Nat.zero_add,lk0,ln,lf,ls,bk,aP,hf0,aJ aE,hl40,d1,d3,d2];exact rfl) ?_)
      refine ai rfl ?_
      refine⟨s1,?_,hm1⟩
      unfold fe
      rw[if_neg hk0,if_pos hk]
      simp only[eV,d1,d3,d2,Bool.true_and,Bool.false_and,Bool.and_true,Bool.true_or,Bool.false_or]
    |false=>
     repeat(first|refine uS ?_ |refine aa rfl ?_ |refine ad (by simp(disch:=omega) only[uB,uT,ed,eB,fc,eQ,Nat.zero_add,lk0,ln,lf,ls,bk,aP,hf0,aJ aE,hl40,d1,d3];exact rfl) ?_)
     refine ai rfl ?_
     refine⟨s1,?_,hm1⟩
     unfold fe
     rw[if_neg hk0,if_pos hk]
     simp only[eV,d1,d3,Bool.true_and,Bool.false_and,Bool.and_true,Bool.true_or,Bool.false_or]
  ·have hk1:¬v.kind=1:=by simpa using hc
   refine uG ?_
   refine uJ [1,4,40] ?_
   refine ae rfl rfl (fun hc=>?_) (fun hc=>?_)
   ·have hk:v.kind=2:=by simpa using hc
    cases d2:decide (v.f=0) with
    |true=>
     repeat(first|refine uS ?_ |refine aa rfl ?_ |refine ad (by simp(disch:=omega) only[uB,uT,ed,eB,fc,eQ,Nat.zero_add,lk0,ln,lf,ls,bk,aP,hf0,aJ aE,hl40,d2];exact rfl) ?_)
     refine ai rfl ?_
     refine⟨s1,?_,hm1⟩
     unfold fe
     rw[if_neg hk0,if_neg hk1,if_pos hk]
     simp only[eV,d2,Bool.true_and,Bool.false_and,Bool.and_true,Bool.true_or,Bool.false_or]
    |false=>
     repeat(first|refine uS ?_ |refine aa rfl ?_ |refine ad (by simp(disch:=omega) only[uB,uT,ed,eB,fc,eQ,Nat.zero_add,lk0,ln,lf,ls,bk,aP,hf0,aJ aE,hl40,d2];exact rfl) ?_)
     refine ai rfl ?_
     refine⟨s1,?_,hm1⟩
     unfold fe
     rw[if_neg hk0,if_neg hk1,if_pos hk]
     simp only[eV,d2,Bool.true_and,Bool.false_and,Bool.and_true,Bool.true_or,Bool.false_or]
   ·have hk2:¬v.kind=2:=by simpa using hc
    refine uG ?_
    refine uJ [1,4,50] ?_
    refine ae rfl rfl (fun hc=>?_) (fun hc=>?_)
    ·have hk:v.kind=3:=by simpa using hc
     refine uH ?_
     cases d1:decide (v.n=0) with
     |true=>
      cases d4:v.s.beq bu with
      |true=>
       refine aU [(0,none),(1,none),(2,none),(3,none),(4,none),(5,none),(6,none),(7,none),(8,none),(9,none),(10,none),(12,none),(13,none),(11,some [true,true,false,true,false,true,true,true,true,true,true,true,true]),(14,none),(15,none),(16,some [false,false,false,false,false,false,false,false,false,false,false,false,false])] (by kernel_rfl) (by kernel_rfl) (by simp(disch:=omega) only[uB,uT,Nat.reduceEqDiff,↓reduceIte,uD,mask,aC,aB,ed,eB,fc,eQ,Nat.zero_add,lk0,ln,lf,ls,bk,aP,hf0,aJ aE,hl40,d1,d4];exact rfl) ?_
       refine cg (BG ho.canon hv) ?_ ?_
       ·rintro r s' e
        cases e
        have hcf:decide ((canon v.f:Int)=(v.f:Int))=decide (canon v.f=v.f):=by rw[Bool.eq_iff_iff,decide_eq_true_iff,decide_eq_true_iff];omega
        refine⟨_,(by simp(disch:=omega) only[uB,uT,Nat.reduceEqDiff,↓reduceIte,uE,aC,aB,ed,eB,fc,eQ,Nat.zero_add,lk0,ln,lf,ls,bk,aP,hf0,aJ aE,hl40,d1,d4];exact rfl),?_⟩
        refine uH ?_
        refine ai rfl ?_
        refine⟨_,?_,hm1⟩
        unfold fe
        rw[if_neg hk0,if_neg hk1,if_neg hk2,if_pos hk]
        simp only[eV,d1,d4,hcf,Bool.true_and,Bool.false_and,Bool.and_true]
       ·rintro r s' e
        cases e
      |false=>
       refine aU [(0,none),(1,none),(2,none),(3,none),(4,none),(5,none),(6,none),(7,none),(8,none),(9,none),(10,none),(12,none),(13,none),(11,some [true,true,false,true,false,true,true,true,true,true,true,true,true]),(14,none),(15,none),(16,some [false,false,false,false,false,false,false,false,false,false,false,false,false])] (by kernel_rfl) (by kernel_rfl) (by simp(disch:=omega) only[uB,uT,Nat.reduceEqDiff,↓reduceIte,uD,mask,aC,aB,ed,eB,fc,eQ,Nat.zero_add,lk0,ln,lf,ls,bk,aP,hf0,aJ aE,hl40,d1,d4];exact rfl) ?_
       refine uH ?_
       refine ai rfl ?_
       refine⟨s1,?_,hm1⟩
       unfold fe
       rw[if_neg hk0,if_neg hk1,if_neg hk2,if_pos hk,d1,d4]<;>rfl
     |false=>
      refine aU [(0,none),(1,none),(2,none),(3,none),(4,none),(5,none),(6,none),(7,none),(8,none),(9,none),(10,none),(12,none),(13,none),(11,some [true,true,false,true,false,true,true,true,true,true,true,true,true]),(14,none),(15,none),(16,some [false,false,false,false,false,false,false,false,false,false,false,false,false])] (by kernel_rfl) (by kernel_rfl) (by simp(disch:=omega) only[uB,uT,Nat.reduceEqDiff,↓reduceIte,uD,mask,aC,aB,ed,eB,fc,eQ,Nat.zero_add,lk0,ln,lf,ls,bk,aP,hf0,aJ aE,hl40,d1];exact rfl) ?_
      refine uH ?_
      refine ai rfl ?_
      refine⟨s1,?_,hm1⟩
      unfold fe
      rw[if_neg hk0,if_neg hk1,if_neg hk2,if_pos hk,d1]<;>rfl
    ·have hk3:¬v.kind=3:=by simpa using hc
     cases d4:decide (v.kind=4) with
     |true=>
      have h4:v.kind=4∨v.kind=5:= .inl (by simpa using d4)
      repeat(first|refine uS ?_ |refine aa rfl ?_ |refine ad (by simp(disch:=omega) only[uB,uT,d4];exact rfl) ?_)
      refine uJ [1,4,68] ?_
      refine ae rfl rfl (fun hc=>?_) (fun hc=>?_)
      ·refine uG ?_
       refine ae rfl rfl (fun hc=>?_) (fun hc=>?_)
       ·
        cases d1:decide (v.n=0) with
        |true=>
         cases d2:decide (v.f=0) with
         |true=>
          repeat(first|refine uS ?_ |refine aa rfl ?_ |refine ad (by simp(disch:=omega) only[uB,uT,ed,eB,fc,eQ,Nat.zero_add,lk0,ln,lf,ls,bk,aP,hf0,aJ aE,hl40,d1,d2];exact rfl) ?_)
          refine ai rfl ?_
          refine⟨s1,?_,hm1⟩
          unfold fe
          rw[if_neg hk0,if_neg hk1,if_neg hk2,if_neg hk3,if_pos h4]
          simp only[eV,d1,d2,Bool.true_and,Bool.false_and,Bool.and_true,Bool.true_or,Bool.false_or]
         |false=>
          repeat(first|refine uS ?_ |refine aa rfl ?_ |refine ad (by simp(disch:=omega) only[uB,uT,ed,eB,fc,eQ,Nat.zero_add,lk0,ln,lf,ls,bk,aP,hf0,aJ aE,hl40,d1,d2];exact rfl) ?_)
          refine ai rfl ?_
          refine⟨s1,?_,hm1⟩
          unfold fe
          rw[if_neg hk0,if_neg hk1,if_neg hk2,if_neg hk3,if_pos h4]
          simp only[eV,d1,d2,Bool.true_and,Bool.false_and,Bool.and_true,Bool.true_or,Bool.false_or]
        |false=>
         repeat(first|refine uS ?_ |refine aa rfl ?_ |refine ad (by simp(disch:=omega) only[uB,uT,ed,eB,fc,eQ,Nat.zero_add,lk0,ln,lf,ls,bk,aP,hf0,aJ aE,hl40,d1];exact rfl) ?_)
         refine ai rfl ?_
         refine⟨s1,?_,hm1⟩
         unfold fe
         rw[if_neg hk0,if_neg hk1,if_neg hk2,if_neg hk3,if_pos h4]
         simp only[eV,d1,Bool.true_and,Bool.false_and,Bool.and_true,Bool.true_or,Bool.false_or]
       ·cases hc
      ·cases hc
     |false=>
      repeat(first|refine uS ?_ |refine aa rfl ?_ |refine ad (by simp(disch:=omega) only[uB,uT,d4];exact rfl) ?_)
      refine uJ [1,4,68] ?_
      refine ae rfl rfl (fun hc=>?_) (fun hc=>?_)
      ·cases hc
      ·cases d5:decide (v.kind=5) with
       |true=>
        have h4:v.kind=4∨v.kind=5:= .inr (by simpa using d5)
        repeat(first|refine uS ?_ |refine aa rfl ?_ |refine ad (by simp(disch:=omega) only[uB,uT,d5];exact rfl) ?_)
        refine uJ [1,4,68] ?_
        refine ae rfl rfl (fun hc=>?_) (fun hc=>?_)
        ·
         cases d1:decide (v.n=0) with
         |true=>
          cases d2:decide (v.f=0) with
          |true=>
           repeat(first|refine uS ?_ |refine aa rfl ?_ |refine ad (by simp(disch:=omega) only[uB,uT,ed,eB,fc,eQ,Nat.zero_add,lk0,ln,lf,ls,bk,aP,hf0,aJ aE,hl40,d1,d2];exact rfl) ?_)
           refine ai rfl ?_
           refine⟨s1,?_,hm1⟩
           unfold fe
           rw[if_neg hk0,if_neg hk1,if_neg hk2,if_neg hk3,if_pos h4]
           simp only[eV,d1,d2,Bool.true_and,Bool.false_and,Bool.and_true,Bool.true_or,Bool.false_or]
          |false=>
           repeat(first|refine uS ?_ |refine aa rfl ?_ |refine ad (by simp(disch:=omega) only[uB,uT,ed,eB,fc,eQ,Nat.zero_add,lk0,ln,lf,ls,bk,aP,hf0,aJ aE,hl40,d1,d2];exact rfl) ?_)
           refine ai rfl ?_
           refine⟨s1,?_,hm1⟩
           unfold fe
           rw[if_neg hk0,if_neg hk1,if_neg hk2,if_neg hk3,if_pos h4]
           simp only[eV,d1,d2,Bool.true_and,Bool.false_and,Bool.and_true,Bool.true_or,Bool.false_or]
         |false=>
          repeat(first|refine uS ?_ |refine aa rfl ?_ |refine ad (by simp(disch:=omega) only[uB,uT,ed,eB,fc,eQ,Nat.zero_add,lk0,ln,lf,ls,bk,aP,hf0,aJ aE,hl40,d1];exact rfl) ?_)
          refine ai rfl ?_
          refine⟨s1,?_,hm1⟩
          unfold fe
          rw[if_neg hk0,if_neg hk1,if_neg hk2,if_neg hk3,if_pos h4]
          simp only[eV,d1,Bool.true_and,Bool.false_and,Bool.and_true,Bool.true_or,Bool.false_or]
        ·cases hc
       |false=>
        repeat(first|refine uS ?_ |refine aa rfl ?_ |refine ad (by simp(disch:=omega) only[uB,uT,d5];exact rfl) ?_)
        refine uJ [1,4,68] ?_
        refine ae rfl rfl (fun hc=>?_) (fun hc=>?_)
        ·cases hc
        ·refine uG ?_
         refine ai rfl ?_
         refine⟨s1,?_,hm1⟩
         unfold fe
         rw[if_neg hk0,if_neg hk1,if_neg hk2,if_neg hk3,if_neg (by simp at d4 d5;omega)];rfl
end
end Go.Proofs.Ytofohkdkpbigiaa
end
