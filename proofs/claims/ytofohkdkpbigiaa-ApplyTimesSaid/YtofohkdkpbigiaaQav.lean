/-
  A part of the texts.
-/
import Derived.Test.YtofohkdkpbigiaaQau
section
namespace Go.Proofs.Ytofohkdkpbigiaa
open Go.Am
set_option maxRecDepth 10000
set_option maxHeartbeats 1000000
set_option linter.unusedSimpArgs false
def tc (T:Str):Option Cmd:=match nC T with
 |some B=>match gB B with
  |some (c,_)=>if(gu c).2=0∧(gu c).1.beq T=true then some c else none
  |none=>none
 |none=>none
section
variable {O:bk}
theorem JU:X.fns.get 17=some Try.f17:=by kernel_rfl
theorem BT:X.fns.get 31=some Try.f31:=by kernel_rfl
theorem rz:bf X 40 []=some (.pure (.agg (cj noC noZ))):=by
 simp only[bf,bY,iW,cI,ay,aF,fu,fi,ft,gX,bZ,cO,AV.cells,db,eL]
 rfl
theorem He {T:Str}:bf X 98 [(0, .str T)]=some (.pure (.agg [.str T])):=by
 simp only[bf,CM,DV,cI,aF,bZ,cO,AV.cells,db,eL]
 rfl
theorem Ga {T:Str}:bf X 100 [(0, .agg [.str T])]=some (.pure (.agg [.str T])):=by
 simp only[bf,Ac,AE,cI,zg,bZ,cO,AV.cells,db,eL]
 rfl
theorem MX {T:Str}{s:St}:dS (.agg [.str T]) s=some (.val (.ptr (some (s.nx,0))) {s with h:=s.h.put s.nx (.cells (Tr.of [.str T]) 1),nx:=s.nx+1}):=da rfl
theorem Ok {t a:TypeId}{c:Bool}{v:AV}{ms:Array (String×TypeId)}(hu:X.und t=some (.interface ms)):aU X .neq t c (.iface a v) .nilIface=some (.bool true):=by
 show(match iU X 20 t (.iface a v) .nilIface with|some b=>some (AV.bool (!b))|none=>none)=_
 simp only[iU,hu];rfl
theorem PJ {t:TypeId}{c:Bool}(hu:X.und t=some (.interface #[])):aU X .neq t c .nilIface .nilIface=some (.bool false):=by
 cases c with
 |true=>simp only[aU,zG,hu]
 |false=>
  show(match iU X 20 t .nilIface .nilIface with|some b=>some (AV.bool (!b))|none=>none)=_
  simp only[iU,hu];rfl
def getD (b2 b3:Nat):qC:=⟨31,[.ptr (some (b2,0)), .ptr (some (b3,0))]⟩
theorem Dt {s:St}{b2 b3:Nat}:Df X O (getD b2 b3) .ret s fun m s'=>m= .ret∧s'=s:=by
 refine Me BT rfl rfl ?_
 show SW X O _ .ret (aB [.ptr (some (b2,0)), .ptr (some (b3,0))] 0) s _
 unfold aB aB aB
 refine I0 ?_
 refine HU rfl rfl rfl rfl (fun o ho=>by rcases List.mem_singleton.mp ho with rfl;rfl) (by simp(disch:=omega) only[uB,uT,jy,PJ CZ];exact rfl) fun t ht=>⟨rfl,rfl,_,ht,?_⟩
 refine Ml (fun _ _ _ _=>rfl) ?_
 refine ae rfl rfl (fun hc=>?_) (fun hc=>?_)
 ·cases hc
 ·refine su ?_
  intro t ht
  exact⟨.inl rfl,rfl,rfl,rfl⟩
theorem GF:aX (cj noC noZ)=true:=rfl
theorem J0 {s:St}{b2 b3:Nat}{l2:List AV}{u:AV}(h2:Bx s b2 l2)(hl:l2.length=13)(h3:Bx s b3 [u])(hne:b2≠b3):Df X O (getD b2 b3) (.pan jh) s fun m s'=>m= .ret∧Bx s' b2 (cj noC noZ)∧Bx s' b3 [.int .i64 3]∧Am.Mod (fun d=>d=b2∨d=b3) s s':=by
 obtain⟨s1,e1,g1,hm1,n1⟩:=h2.Ae (X:=X) (t:=40) (m:=cj noC noZ) (by rw[hl];rfl) (by rw[hl];exact cD) GF
 obtain⟨s2,e2,g2,hm2,n2⟩:=(h3.mod hm1 (fun e=>hne e.symm)).stm (X:=X) (t:=23) (i:=0) (w:= .int .i64 3) rfl eB rfl rfl
 have g1':=g1.mod hm2 hne
 refine Me BT rfl rfl ?_
 show SW X O _ (.pan jh) (aB [.ptr (some (b2,0)), .ptr (some (b3,0))] 0) s _
 unfold aB aB aB
 unfold jh
 refine I0 ?_
 refine HU rfl rfl rfl rfl (fun o ho=>by rcases List.mem_singleton.mp ho with rfl;rfl) (by simp(disch:=omega) only[uB,uT,jy,Ok CZ];exact rfl) fun t ht=>⟨rfl,rfl,_,ht,?_⟩
 refine Ml (fun _ _ _ _=>rfl) ?_
 refine ae rfl rfl (fun hc=>?_) (fun hc=>?_)
 ·refine ad (by simp(disch:=omega) only[uB,uT,rz,e1,e2];exact rfl) ?_
  refine eH ?_
  intro t ht
  exact⟨.inl rfl,rfl,rfl,g1',g2,(hm1.mono (fun _ _ e=> .inl e)).trans hm2 (fun _ _ e=> .inr e)⟩
 ·cases hc
structure DY (O:bk):Prop where
 put:Mf O
 rd:PN O
 get:O 17=none
def M8 (T:Str)(c:Cmd)(e:Int):Prop:=(tc T=some c∧e=0)∨(tc T=none∧c=noC∧e=3)
theorem Af {s:St}:p9 s noC noZ:=
 ⟨⟨Acc.nil.sli,Acc.nil.sli,Acc.nil.sli,by simp[noC],by simp[noC],by simp[noC],⟨_,_,_,_,rfl⟩⟩,⟨fun _=>False,⟨[],Acc.nil.sli,fun c hc=>(by cases hc),trivial⟩,fun d hd=>hd.elim⟩,fun d hd=>(by rcases hd with hd|hd|hd<;>cases hd),⟨fun k hk=>(by cases hk),fun k hk=>(by cases hk),fun k hk=>(by cases hk),oD,fun k hk=>(by cases hk)⟩⟩
theorem FB (ho:DY O){s:St}(htd:Tidy s){T:Str}(hT:T.len≤100000):
  Ca X O (.fn 17) [.str T] s fun r=>∃c z s' e,r= .ret (.tup [.agg (cj c z), .int .i64 e]) s'∧p9 s' c z∧(∀d,z.has d→s.nx≤d)∧Am.Mod No s s'∧M8 T c e:=by
 refine M7 ho.get JU rfl ?_
 unfold aB aB
 refine iQ ?_;refine ad (by simp(disch:=omega) only[uB,uT,bS iW rfl,bS D4 rfl,AV.cells];exact rfl) ?_;refine eH ?_;refine cV ?_
 refine za fun s1 hn1 hm1 hb2 hb3=>?_
 refine uG ?_
 refine au (FQ ho.put.sl (t:=T) (by omega)) ?_ ?_
 ·rintro r s2 ⟨s2',e,hm2⟩
  cases hop:nC T with
  |none=>
   rw[hop] at e
   cases e
   have hget:tc T=none:=by unfold tc;rw[hop]
   have k2:=hb2.no hm2
   obtain⟨s3,e3,g3,hm3,n3⟩:=(hb3.no hm2).stm (X:=X) (t:=23) (i:=0) (w:= .int .i64 3) rfl eB rfl rfl
   have k3:=k2.mod hm3 (by omega)
   have l3:=g3.ld (X:=X) (i:=0) rfl ou rfl eB
   change aO X _ _ _=some (.old (.int .i64 3)) at l3
   refine bC (by simp(disch:=omega) only[uB,uT,e3];exact rfl) ?_
   repeat(first|refine uS ?_ |refine aa rfl ?_ |refine ad (by simp(disch:=omega) only[uB,uT,l3];exact rfl) ?_)
   refine uJ [2,3,14] ?_
   refine ae rfl rfl (fun hc=>?_) (fun hc=>?_)
   ·obtain⟨s4,e4,g4,hm4,n4⟩:=k3.Ae (X:=X) (t:=40) (m:=cj noC noZ) rfl cD GF
    have g34:=g3.mod hm4 (by omega)
    obtain⟨s5,e5,g5,hm5,n5⟩:=g34.stm (X:=X) (t:=23) (i:=0) (w:= .int .i64 3) rfl eB rfl rfl
    have g45:=g4.mod hm5 (by omega)
    have l4:=g34.ld (X:=X) (i:=0) rfl ou rfl eB
    change aO X _ _ _=some (.old (.int .i64 3)) at l4
    have sm:=(Af (s:=s)).h.same
    refine uH ?_
    refine aV [(0,none),(1,none),(2,some [true,false]),(3,some [false])] (by kernel_rfl) (by kernel_rfl) (by simp(disch:=omega) only[uB,uT,Nat.reduceEqDiff,↓reduceIte,uD,mask,aC,aA,sm,rz,l3,e4,l4,e5];exact rfl) ?_
    refine uH ?_
    refine B5 rfl rfl rfl (g45.all bY rfl cD) (g5.ld (i:=0) rfl ou rfl eB) ?_
    refine⟨noC,noZ,s5,3,rfl,Af,fun d hd=>(by rcases hd with hd|hd|hd<;>cases hd),?_, .inr ⟨hget,rfl,rfl⟩⟩
    exact(((hm1.trans hm2 (fun _ _ h=>h)).trans hm3 (fun d hd e=>by omega)).trans hm4 (fun d hd e=>by omega)).trans hm5 (fun d hd e=>by omega)
   ·cases hc
  |some B=>
   rw[hop] at e
   cases e
   have k2:=hb2.no hm2
   obtain⟨s3,e3,g3,hm3,n3⟩:=(hb3.no hm2).stm (X:=X) (t:=23) (i:=0) (w:= .int .i64 0) rfl eB rfl rfl
   have k3:=k2.mod hm3 (by omega)
   have l3:=g3.ld (X:=X) (i:=0) rfl ou rfl eB
   change aO X _ _ _=some (.old (.int .i64 0)) at l3
   have hm03:Am.Mod No s s3:=(hm1.trans hm2 (fun _ _ h=>h)).trans hm3 (fun d hd e=>by omega)
   have n02:=hm2.nx
   obtain⟨hTB,hBok,hBl⟩:=CS hop
   refine bC (by simp(disch:=omega) only[uB,uT,e3];exact rfl) ?_
   repeat(first|refine uS ?_ |refine aa rfl ?_ |refine ad (by simp(disch:=omega) only[uB,uT,l3];exact rfl) ?_)
   refine uJ [0,2,3,4,14] ?_
   refine ae rfl rfl (fun hc=>?_) (fun hc=>?_)
   ·cases hc
   ·refine uH ?_
    refine ad (by simp(disch:=omega) only[uB,uT,Pp];exact rfl) ?_
    refine bC (r:= .fin _ _) Hq ?_
    (repeat(first|refine uS ?_ |refine aa rfl ?_));refine ad (by simp(disch:=omega) only[uB,uT,He,Ga,MX];exact rfl) ?_;(repeat(first|refine uS ?_ |refine aa rfl ?_))
    refine eK fun s4 hn4 hm4 hb4=>?_
    have hm04:=hm03.trans hm4 (fun _ _ h=>h)
    have g24:=k3.no hm4
    have g34:=g3.no hm4
    refine uG ?_
    refine au (xf ho.rd (hm04.tidy htd) hb4 (by omega)) ?_ ?_
    ·intro v s5 hx
     cases hrc:gB B with
     |none=>rw[hrc] at hx;obtain⟨_,e,_⟩:=hx;cases e
     |some p=>
      obtain⟨c,B'⟩:=p
      rw[hrc] at hx
      obtain⟨z,s5',Z,e,hcH,hR,hzz,hm5⟩:=hx
      cases e
      obtain⟨hcok,hcl⟩:=rA hrc
      have g25:=g24.mod hm5 (by omega)
      have g35:=g34.mod hm5 (by omega)
      obtain⟨s6,e6,g6,hm6,n6⟩:=g25.Ae (X:=X) (t:=40) (m:=cj c z) rfl cD hcH.qz
      have g36:=g35.mod hm6 (by omega)
      have hcA:p9 s6 c z:=⟨hcH.mod hm6 (fun d hd e=>by have:=hzz d (.inl hd);omega),⟨Z,hR.mod hm6 (fun d hd e=>by have:=hzz d (.inr hd);omega),fun d hd=>by have:=hzz d (.inr hd);omega⟩,fun d hd=>by have:=hzz d (.inl hd);omega,hcok⟩
      have hm06:Am.Mod No s s6:=(hm04.trans hm5 (fun d hd e=>by omega)).trans hm6 (fun d hd e=>by omega)
      refine bC (by simp(disch:=omega) only[uB,uT,e6];exact rfl) ?_
      repeat(first|refine uS ?_ |refine aa rfl ?_ |refine ad (by simp(disch:=omega) only[uB,uT,g6.all bY rfl cD];exact rfl) ?_)
      refine au (E0 ho.put (hm06.tidy htd) hcA (by omega)) ?_ ?_
      ·rintro r s7 ⟨s7',e,hm7⟩
       cases e
       have hm07:=hm06.trans hm7 (fun _ _ h=>h)
       have g7:=g6.no hm7
       have g37:=g36.no hm7
       have hcA7:=hcA.no hm7
       have hgood:(gu c).2=0→(gu c).1.beq T=true→tc T=some c:=fun h1 h2=>by
        unfold tc;rw[hop];simp only;rw[hrc];simp only;rw[if_pos ⟨h1,h2⟩]
       have hbadg:¬((gu c).2=0∧(gu c).1.beq T=true)→tc T=none:=fun h=>by
        unfold tc;rw[hop];simp only;rw[hrc];simp only;rw[if_neg h]
       have bad:tc T=none→∀ {L:Sl},lk L 2=some (.ptr (some (s.nx,0)))→lk L 3=some (.ptr (some (s.nx+1,0)))→∀ {s9},Am.Mod No s s9→Bx s9 s.nx (cj noC noZ)→Bx s9 (s.nx+1) [.int .i64 3]→Fin (uq X O Try.f17 fun r=>∃c z s' e,r= .ret (.tup [.agg (cj c z), .int .i64 e]) s'∧p9 s' c z∧(∀d,z.has d→s.nx≤d)∧Am.Mod No s s'∧M8 T c e) .ret L [.fn (getD s.nx (s.nx+1))] s9:=fun hg L hL2 hL3 s9 hm9 q2 q3=>by
        refine yt rfl hL2 hL3 (Dt.mono fun m s' hms=>?_)
        obtain⟨rfl,rfl⟩:=hms
        exact⟨rfl,_,_,q2.all bY rfl cD,q3.ld (i:=0) rfl ou rfl eB,noC,noZ,_,3,rfl,Af,fun d hd=>(by rcases hd with hd|hd|hd<;>cases hd),hm9, .inr ⟨hg,rfl,rfl⟩⟩
       obtain⟨s8,e8,g8,hm8,n8⟩:=g7.Ae (X:=X) (t:=40) (m:=cj noC noZ) rfl cD GF
       have g38:=g37.mod hm8 (by omega)
       obtain⟨s9,e9,g9,hm9,n9⟩:=g38.stm (X:=X) (t:=23) (i:=0) (w:= .int .i64 3) rfl eB rfl rfl
       have g89:=g8.mod hm9 (by omega)
       have hm09:Am.Mod No s s9:=(hm07.trans hm8 (fun d hd e=>by omega)).trans hm9 (fun d hd e=>by omega)
       refine uL ?_
       cases d1:decide ((gu c).2=0) with
       |false=>
        have hn:¬(gu c).2=0:=by simpa using d1
        repeat(first|refine uS ?_ |refine aa rfl ?_ |refine ad (by simp(disch:=omega) only[uB,uT,d1,Bool.not_false,aQ];exact rfl) ?_)
        refine uJ [2,3,35] ?_
        refine ae rfl rfl (fun hc=>?_) (fun hc=>?_)
        ·repeat(first|refine uS ?_ |refine aa rfl ?_ |refine ad (by simp(disch:=omega) only[uB,uT,rz,e8,e9];exact rfl) ?_)
         exact bad (hbadg fun h=>hn h.1) rfl rfl hm09 g89 g9
        ·cases hc
       |true=>
        have hn:(gu c).2=0:=by simpa using d1
        repeat(first|refine uS ?_ |refine aa rfl ?_ |refine ad (by simp(disch:=omega) only[uB,uT,d1,Bool.not_true];exact rfl) ?_)
        refine uJ [2,3,35] ?_
        refine ae rfl rfl (fun hc=>?_) (fun hc=>?_)
        ·repeat(first|refine uS ?_ |refine aa rfl ?_ |refine ad (by simp(disch:=omega) only[uB,uT,rz,e8,e9];exact rfl) ?_)
         exact bad (hbadg fun h=>by rw[h.2] at hc;cases hc) rfl rfl hm09 g89 g9
        ·have hbq:(gu c).1.beq T=true:=by simpa using hc
         obtain⟨s10,e10,g10,hm10,n10⟩:=g7.Ae (X:=X) (t:=40) (m:=cj c z) rfl cD hcH.qz
         have g310:=g37.mod hm10 (by omega)
         obtain⟨s11,e11,g11,hm11,n11⟩:=g310.stm (X:=X) (t:=23) (i:=0) (w:= .int .i64 0) rfl eB rfl rfl
         have g1011:=g10.mod hm11 (by omega)
         have hm011:Am.Mod No s s11:=(hm07.trans hm10 (fun d hd e=>by omega)).trans hm11 (fun d hd e=>by omega)
         have n57:=hm7.nx
         have hcA11:p9 s11 c z:=⟨((hcA7.h.mod hm10 (fun d hd e=>by have:=hzz d (.inl hd);omega)).mod hm11 (fun d hd e=>by have:=hzz d (.inl hd);omega)),⟨Z,(((hR.mod hm6 (fun d hd e=>by have:=hzz d (.inr hd);omega)).mod hm7 (fun _ _ h=>h)).mod hm10 (fun d hd e=>by have:=hzz d (.inr hd);omega)).mod hm11 (fun d hd e=>by have:=hzz d (.inr hd);omega),fun d hd=>by have:=hzz d (.inr hd);omega⟩,fun d hd=>by have:=hzz d (.inl hd);omega,hcok⟩
         repeat(first|refine uS ?_ |refine aa rfl ?_ |refine ad (by simp(disch:=omega) only[uB,uT,g7.all bY rfl cD,e10,e11];exact rfl) ?_)
         refine yt rfl rfl rfl (Dt.mono fun m s' hms=>?_)
         obtain⟨rfl,rfl⟩:=hms
         exact⟨rfl,_,_,g1011.all bY rfl cD,g11.ld (i:=0) rfl ou rfl eB,c,z,_,0,rfl,hcA11,fun d hd=>by have:=hzz d (.inl hd);omega,hm011, .inl ⟨hgood hn hbq,rfl⟩⟩
      ·rintro r s' ⟨_,e,_⟩
       cases e
    ·intro v s5 hx
     cases hrc:gB B with
     |some p=>rw[hrc] at hx;obtain⟨_,_,_,e,_⟩:=hx;cases e
     |none=>
      rw[hrc] at hx
      obtain⟨s5',e,hm5⟩:=hx
      cases e
      have hget:tc T=none:=by unfold tc;rw[hop];simp only;rw[hrc]
      have g25:=g24.mod hm5 (by omega)
      have g35:=g34.mod hm5 (by omega)
      have hm05:=hm04.trans hm5 (fun d hd e=>by omega)
      refine uH ?_
      refine Fi rfl rfl rfl ((J0 g25 rfl g35 (by omega)).mono fun m s' hms=>?_)
      obtain⟨rfl,q2,q3,hmq⟩:=hms
      exact⟨rfl,_,_,q2.all bY rfl cD,q3.ld (i:=0) rfl ou rfl eB,noC,noZ,_,3,rfl,Af,fun d hd=>(by rcases hd with hd|hd|hd<;>cases hd),hm05.trans hmq (fun d hd e=>by omega), .inr ⟨hget,rfl,rfl⟩⟩
 ·rintro r s' ⟨_,e,_⟩
  cases e
end
end Go.Proofs.Ytofohkdkpbigiaa
end
section
namespace Go.Proofs.Ytofohkdkpbigiaa
open Go.Am
set_option maxRecDepth 10000
set_option maxHeartbeats 1000000
set_option linter.unusedSimpArgs false
def mv (u k:Nat):List Nat:=List.replicate (8- k) 0++(be8 u).drop (8- k)
theorem sO {u k i:Nat}(hi:i<8):(mv u k)[i]? =some (if i<8- k then 0 else u/256^ (7- i) % 256):=by
 unfold mv
 by_cases h:i<8- k
 ·rw[if_pos h,List.getElem?_append_left (by simpa using h)]
  rw[List.getElem?_replicate,if_pos h]
 ·rw[if_neg h,List.getElem?_append_right (by simpa using h),List.length_replicate,List.getElem?_drop,show 8- k+(i- (8- k))=i by omega,be8,List.getElem?_map,List.getElem?_range hi]
  rfl
theorem tB {u k:Nat}:(mv u k).length=8:=by unfold mv;simp[be8]
theorem F5 {u k:Nat}(hk:k<8):(mv u k).set (7- k) (u/256^k % 256)=mv u (k+1):=by
 refine List.ext_getElem? fun i=>?_
 rw[List.getElem?_set]
 by_cases hi:i<8
 ·rw[sO hi (k:=k+1)]
  by_cases e:7- k=i
  ·rw[if_pos e,if_pos (by rw[tB];omega),if_neg (by omega),show 7- i=k by omega]
  ·rw[if_neg e,sO hi]
   by_cases h:i<8- k
   ·rw[if_pos h,if_pos (by omega)]
   ·rw[if_neg h,if_neg (by omega)]
 ·rw[List.getElem?_eq_none (l:=mv u k) (by rw[tB];omega),if_neg (by omega),List.getElem?_eq_none (by rw[tB];omega)]
theorem Jt (u:Nat):mv u 0=List.replicate 8 0:=by unfold mv;simp[be8]
theorem JX (u:Nat):mv u 8=be8 u:=by unfold mv;simp
section
variable {O:bk}
theorem G1:X.fns.get 61=some Try.f61:=by kernel_rfl
theorem Gy:X.fns.get 40=some Try.f40:=by kernel_rfl
theorem JW:X.fns.get 24=some Try.f24:=by kernel_rfl
theorem Gg:X.fns.get 25=some Try.f25:=by kernel_rfl
theorem IL:X.fns.get 26=some Try.f26:=by kernel_rfl
theorem Fk:X.fns.get 27=some Try.f27:=by kernel_rfl
theorem qi {b off:Nat}:ah X 85 (.ptr (some (b,off))) 0=some (.pure (.ptr (some (b,off)))):=by
 simp only[ah,Cn,bj,List.getElem?_cons_zero,List.getElem?_cons_succ,cP,Nat.add_zero]
structure DWO (O:bk):Prop where
 eight:O 61=none
 Eight:O 40=none
 num:O 24=none
 text:O 25=none
 bool:O 26=none
 value:O 27=none
theorem mk8 {s:St}:eu X 83 (.int .i64 8) (.int .i64 8) s=some (.val (.slc (some (s.nx,0,1)) 8 8 true) {s with h:=s.h.put s.nx (.cells (Tr.of ((List.replicate 8 0).map bA)) 8),nx:=s.nx+1}):=by
 show eu X 83 (.int .i64 (.ofNat 8)) (.int .i64 (.ofNat 8)) s=_
 simp only[eu,cJ,sW,zQ,mX,gM]
 rfl
theorem CJ (ho:O 61=none){s:St}{u:Nat}(hu:u<18446744073709551616):
  Ca X O (.fn 61) [.int .u64 (u:Int)] s fun r=>∃s',r= .ret (.str (wd u)) s'∧Am.Mod No s s':=by
 refine aZ ho G1 rfl ?_
 unfold aB aB
 refine iQ ?_;refine ad (by simp(disch:=omega) only[uB,uT];exact rfl) ?_;refine eH ?_;refine cV ?_
 (repeat(first|refine uS ?_ |refine aa rfl ?_));refine ad (by simp(disch:=omega) only[uB,uT,mk8];exact rfl) ?_;(repeat(first|refine uS ?_ |refine aa rfl ?_))
 refine eK fun s1 hn1 hm1 hb1=>?_
 refine uG ?_
 let I:Nat→Sl→St→Prop:=fun k L s'=>Am.Mod (fun d=>d=s.nx) s1 s'∧k≤8∧Bx s' s.nx ((mv u k).map bA)∧L=[(0, .int .u64 ((u/256^k:Nat):Int)),(3, .slc (some (s.nx,0,1)) 8 8 true),(4, .int .i64 (7- (k:Int)))]
 refine WL.less (M:=[(0, .int .u64 ((u:Nat):Int)),(3, .slc (some (s.nx,0,1)) 8 8 true),(4, .int .i64 7)]) ?_ rfl
 refine bm I (fun k=>8- k) ?_ 8 0 _ s1 (by simp) ⟨Mod.refl _ _,Nat.zero_le _,by rw[Jt];exact hb1,by simp⟩
 rintro k L s2 ⟨hm2,hk,hb2,rfl⟩
 refine uG ?_
 refine uJ [0,3,4,7] ?_
 refine ae rfl rfl (fun hc=>?_) (fun hc=>?_)
 ·simp at hc
  have hidx:((7:Int)- (k:Int)).toNat=7- k:=by omega
  have hv:((mv u k).map bA)[7- k]? =some (bA (if 7- k<8- k then 0 else u/256^ (7- (7- k)) % 256)):=by rw[List.getElem?_map,sO (by omega)];rfl
  obtain⟨s3,e3,g3,hm3,n3⟩:=hb2.stm (X:=X) (t:=5) (i:=7- k) (w:=bA (u/256^k % 256)) hv qw rfl rfl
  have g3':Bx s3 s.nx ((mv u (k+1)).map bA):=by
   rw[←F5 (by omega),List.map_set];exact g3
  have h8:∀ {c:Bool},aU X .shr 75 c (.int .u64 ((u/256^k:Nat):Int)) (.int .u64 8)=some (.int .u64 ((u/256^k/2^8:Nat):Int)):=fun{c}=>lW (m:=8) (by decide)
  have hdd:u/256^k/2^8=u/256^ (k+1):=by
   rw[Nat.div_div_eq_div_mul]
   show u/ (256^k*256)=_
   rw[←Nat.pow_succ]
  rw[hdd] at h8
  repeat(first|refine uS ?_ |refine aa rfl ?_ |refine ad (by simp(disch:=omega) only[uB,uT,DO eU gT,aT cJ qw,hidx,Nat.mul_one,Nat.zero_add,e3,h8];exact rfl) ?_)
  exact aM (k+1) [(0, .int .u64 ((u/256^ (k+1):Nat):Int)),(3, .slc (some (s.nx,0,1)) 8 8 true),(4, .int .i64 (7- (k:Int)- 1))] ⟨hm2.trans hm3 (fun _ _ e=>e),by omega,g3',by simp;omega⟩ (by show 8- (k+1)<8- k;omega) (by simp[aI,aD])
 ·simp at hc
  have:k=8:=by omega
  subst this
  rw[JX] at hb2
  have hst:=hb2.str (X:=X) (n:=8) (c:=8) (x:=true) (MB u) rfl (by decide) cJ aE gT
  rw[BL hu] at hst
  repeat(first|refine uS ?_ |refine aa rfl ?_ |refine ad (by simp(disch:=omega) only[uB,uT,hst];exact rfl) ?_)
  refine ai rfl ?_
  exact⟨s2,rfl,hm1.trans hm2 (fun d hd e=>by omega)⟩
theorem qq (ho:DWO O){s:St}{n:Int}:
  Ca X O (.fn 40) [.int .i64 n] s fun r=>∃s',r= .ret (.str (aW n)) s'∧Am.Mod No s s':=by
 refine aZ ho.Eight Gy rfl ?_
 unfold aB aB
 repeat(first|refine uS ?_ |refine aa rfl ?_ |refine ad (by simp(disch:=omega) only[uB,uT,C3 lS eU];exact rfl) ?_)
 refine au (CJ ho.eight (qR n)) ?_ ?_
 ·rintro r s1 ⟨s1',e,hm1⟩
  cases e
  refine uL ?_
  refine uG ?_
  refine ai rfl ?_
  exact⟨s1,rfl,hm1⟩
 ·rintro r s' ⟨_,e,_⟩
  cases e
theorem DJ (n:Int):aW n≠bE:=fun e=>by
 have:=congrArg Str.len e
 cases this
theorem yd (ho:DWO O){s:St}{b:Nat}{H:Nat→Prop}{S:Str}(h:Wri s b H S)(hl:S.len+8≤1000000){n:Int}:
  Ca X O (.fn 24) [.ptr (some (b,0)), .int .i64 n] s (WP s b H (S.app [aW n])):=by
 refine aZ ho.num JW rfl ?_
 unfold aB aB aB
 obtain⟨x0,g0,b0,_⟩:=h.ex
 obtain⟨a0,c0,x0',e0⟩:=b0.slc
 rw[e0] at g0
 have sm:=oQ (a:=a0) (n:=S.len) (c:=c0) (x:=x0')
 refine aV [(0,none),(1,none),(2,none),(3,none),(4,none),(5,none),(6,some [false,true,true,true,true,true]),(7,some [false,true,true,true,true]),(8,none),(9,none),(10,some [false,true,false,false,false,false])] (by kernel_rfl) (by kernel_rfl) (by simp(disch:=omega) only[uB,uT,Nat.reduceEqDiff,↓reduceIte,uD,mask,aC,aA,bN,qi,Nat.zero_add,g0.ld (i:=0) rfl cJ rfl cP];exact rfl) ?_
 refine cH (qq ho) ?_ ?_
 ·rintro r s1 ⟨s1',e,hm1⟩
  cases e
  obtain⟨a3,c3,x3,s3,a4,n4,c4,x4,s4,g1,e3,e4,hm3,hw⟩:=(h.no hm1).put (cQ n) hl (DJ n)
  have ga:=g0.no hm1
  have hlq:=ga.ld (X:=X) (i:=0) rfl cJ rfl cP
  have hlp:=g1.ld (X:=X) (i:=0) rfl cJ rfl cP
  rw[hlq] at hlp
  simp only[Option.some.injEq,OR.old.injEq] at hlp
  rw[←hlp] at e3
  refine⟨_,(by simp(disch:=omega) only[uB,uT,Nat.reduceEqDiff,↓reduceIte,uE,aC,aA,bN,qi,Nat.zero_add,hlq,nQ,e3,e4];exact rfl),?_⟩
  refine uG ?_
  obtain⟨s4',H4,er,h4,hm4,hH4⟩:=hw
  cases er
  exact fw rfl ⟨s4,H4,rfl,h4,(hm1.mono (C:=H) (fun _ _ e=>e.elim)).trans hm4 (fun _ _ e=>e),fun c hc=>(hH4 c hc).imp id (fun e=>Nat.le_trans hm1.nx e)⟩
 ·rintro r s' ⟨_,e,_⟩
  cases e
end
end Go.Proofs.Ytofohkdkpbigiaa
end
section
namespace Go.Proofs.Ytofohkdkpbigiaa
open Go.Am
set_option maxRecDepth 10000
set_option maxHeartbeats 1000000
set_option linter.unusedSimpArgs false
section
variable {O:bk}
theorem WS.qa (ho:DWO O){s0 s:St}{H0:Nat→Prop}{b:Nat}{S:Str}(h:WS s0 H0 b s S){n:Int}(hl:S.len+8≤1000000):Ca X O (.fn 24) [.ptr (some (b,0)), .int .i64 n] s (WSP s0 H0 b (S.app [aW n])):=
 h.call fun _ hw=>yd ho hw hl
theorem Wri.P0 {s:St}{b:Nat}{H:Nat→Prop}{S v:Str}(h:Wri s b H S)(hv:v.ok)(hl:S.len+v.len≤1000000):
  ∃a c x,Bx s b [.slc a S.len c x]∧((v=bE∧∃s3,cF X 83 (.ptr (some (b,0))) (.slc a S.len c x) s=some (.val (.tup []) s3)∧WP s b H (S.cat v) (.ret (.tup []) s3))∨
   ∃s2 a2 n2 c2 x2 s3,cL X 83 (.slc a S.len c x) (.str v) s=some (.val (.slc a2 n2 c2 x2) s2)∧cF X 83 (.ptr (some (b,0))) (.slc a2 n2 c2 x2) s2=some (.val (.tup []) s3)∧WP s b H (S.cat v) (.ret (.tup []) s3)):=by
 by_cases h0:v=bE
 ·subst h0
  obtain⟨x0,g1,g2,g3⟩:=h.ex
  obtain⟨ax,cx,xx,ex⟩:=g2.slc
  rw[ex] at g1
  obtain⟨s3,e3,k3,hm3,n3⟩:=g1.stm (X:=X) (t:=83) (i:=0) (w:= .slc ax S.len cx xx) rfl cP rfl rfl
  refine⟨ax,cx,xx,g1, .inl ⟨rfl,s3,e3,s3,H,rfl,?_,hm3.mono (fun c _ e=>by subst e;exact h.own),fun c hc=> .inl hc⟩⟩
  rw[rn]
  exact⟨⟨_,k3,(by rw[←ex];exact(g2.mod hm3 (fun c hc=>(g3 c hc).2)):Buf s3 _ _),fun c hc=>g3 c (by rw[ex];exact hc)⟩,h.own,fun c hc=>by rw[n3];exact h.lt c hc⟩
 ·obtain⟨a3,c3,x3,s3,a4,n4,c4,x4,s4,g1,e3,e4,hm3,hw⟩:=h.put hv hl h0
  exact⟨a3,c3,x3,g1, .inr ⟨s3,a4,n4,c4,x4,s4,e3,e4,hw⟩⟩
theorem CE (ho:DWO O){s:St}{b:Nat}{H:Nat→Prop}{S:Str}(h:Wri s b H S){v:Str}(hv:v.ok)(hl:S.len+(8+v.len)≤1000000):
  Ca X O (.fn 25) [.ptr (some (b,0)), .str v] s (WP s b H (S.app (cS v))):=by
 refine aZ ho.text Gg rfl ?_
 unfold aB aB aB
 repeat(first|refine uS ?_ |refine aa rfl ?_ |refine ad (by simp(disch:=omega) only[uB,uT,aK aE];exact rfl) ?_)
 refine au (yd ho h (by omega)) ?_ ?_
 ·rintro r s2 ⟨s2',H2,er,h2,hm2,hH2⟩
  cases er
  have hl2:(S.app [aW (v.len:Int)]).len=S.len+8:=by rw[aY];rfl
  have fin:∀ {s4:St},WP s2 b H2 ((S.app [aW (v.len:Int)]).cat v) (.ret (.tup []) s4)→WP s b H (S.app (cS v)) (.ret (.tup []) s4):=by
   rintro s4 ⟨s4',H4,er,h4,hm4,hH4⟩
   cases er
   exact⟨s4,H4,rfl,h4,hm2.trans hm4 (fun c hc h=>(hH2 c h).elim id (fun h=>by omega)),fun c hc=>(hH4 c hc).elim (hH2 c) (fun h=> .inr (by have:=hm2.nx;omega))⟩
  refine uL ?_
  obtain⟨a,c,x,g1,⟨h0,s3,e3,hw⟩|⟨s3,a2,n2,c2,x2,s4,e3,e4,hw⟩⟩:=h2.P0 hv (by omega)
  ·subst h0
   repeat(first|refine uS ?_ |refine aa rfl ?_ |refine ad (by simp(disch:=omega) only[uB,uT,bN,qi,Nat.zero_add,g1.ld (i:=0) rfl cJ rfl cP,nQ,wB cJ sW (zj (v:=bE)),e3];exact rfl) ?_)
   exact fw rfl (fin hw)
  ·repeat(first|refine uS ?_ |refine aa rfl ?_ |refine ad (by simp(disch:=omega) only[uB,uT,bN,qi,Nat.zero_add,g1.ld (i:=0) rfl cJ rfl cP,nQ,e3,e4];exact rfl) ?_)
   exact fw rfl (fin hw)
 ·rintro r s' ⟨_,_,er,_⟩
  cases er
theorem WS.w5 (ho:DWO O){s0 s:St}{H0:Nat→Prop}{b:Nat}{S v:Str}(h:WS s0 H0 b s S)(hv:v.ok)(hl:S.len+(8+v.len)≤1000000):Ca X O (.fn 25) [.ptr (some (b,0)), .str v] s (WSP s0 H0 b (S.app (cS v))):=
 h.call fun _ hw=>CE ho hw hv hl
theorem WS.N9 (ho:DWO O){s0 s:St}{H0:Nat→Prop}{b:Nat}{S:Str}(h:WS s0 H0 b s S){v:Bool}(hl:S.len+8≤1000000):Ca X O (.fn 26) [.ptr (some (b,0)), .bool v] s (WSP s0 H0 b (S.app [aW (if v=true then 1 else 0)])):=by
 refine aZ ho.bool IL rfl ?_
 unfold aB aB aB
 refine uG ?_
 refine uJ [0,4] ?_
 refine ae rfl rfl (fun hc=>?_) (fun hc=>?_)
 ·refine uG ?_
  refine au (h.qa ho hl) ?_ ?_
  ·rintro r s1 ⟨s1',e,h1⟩
   cases e
   refine uL ?_
   refine uH ?_
   rw[if_pos hc]
   exact fw rfl ⟨s1,rfl,h1⟩
  ·rintro r s' ⟨_,e,_⟩
   cases e
 ·refine uG ?_
  refine au (h.qa ho hl) ?_ ?_
  ·rintro r s1 ⟨s1',e,h1⟩
   cases e
   refine uL ?_
   refine uH ?_
   rw[if_neg (by rw[hc];exact Bool.false_ne_true)]
   exact fw rfl ⟨s1,rfl,h1⟩
  ·rintro r s' ⟨_,e,_⟩
   cases e
theorem By (ho:DWO O){s0 s:St}{H0:Nat→Prop}{b:Nat}{S:Str}(h:WS s0 H0 b s S){v:Vl}(hv:sV v)(hl:S.len+aN (gR v)≤1000000):
  Ca X O (.fn 27) [.ptr (some (b,0)), .agg (vl v)] s (WSP s0 H0 b (S.app (gR v))):=by
 obtain⟨v1,v2,v3,v4,v5,v6⟩:=hv
 rw[nT] at hl
 refine aZ ho.value Fk rfl ?_
 unfold aB aB aB
 (repeat(first|refine uS ?_ |refine aa rfl ?_));refine ad (by simp(disch:=omega) only[uB,uT,da (cs:=vl v) rfl];exact rfl) ?_;(repeat(first|refine uS ?_ |refine aa rfl ?_))
 refine eK fun s1 hn1 hm1 hb1=>?_
 obtain⟨H1,h1,hup,_,hlow⟩:=h.En hm1
 have gb:∀ {s' S'},WS s1 H1 b s' S'→Bx s' s.nx (vl v):=fun hx=>hb1.mod hx.m (fun e=>Nat.lt_irrefl _ (hlow _ e))
 repeat(first|refine uS ?_ |refine aa rfl ?_ |refine ad (by simp(disch:=omega) only[uB,uT,dX,Nat.zero_add,hb1.ld (i:=0) rfl aJ rfl ay];exact rfl) ?_)
 refine au (h1.qa ho (by omega)) ?_ ?_
 ·rintro r s2 ⟨s2',e,h2⟩
  cases e
  have l2:(S.app [aW v.kind]).len=S.len+8:=by rw[aY];rfl
  refine uL ?_
  refine uH ?_
  obtain⟨Hw,hw2,hHw⟩:=h2.w
  obtain⟨x0,g0,b0,_⟩:=hw2.ex
  obtain⟨a0,c0,x0',e0⟩:=b0.slc
  rw[e0] at g0
  have g2:=(gb h2).ld (X:=X) (i:=1) rfl lS rfl jl
  refine aV [(0,none),(1,none),(2,none),(3,none),(4,none),(5,none),(6,none),(7,some [false,true,true,true,true,true,true]),(8,some [true,false,true,true,true,true]),(9,none),(10,none),(11,some [false,true,false,false,false,false,false])] (by kernel_rfl) (by kernel_rfl) (by simp(disch:=omega) only[uB,uT,Nat.reduceEqDiff,↓reduceIte,uD,mask,aC,aA,bN,qi,ef,Nat.zero_add,g0.ld (i:=0) rfl cJ rfl cP,g2];exact rfl) ?_
  refine cH (qq ho) ?_ ?_
  ·rintro r s3 ⟨s3',e,hm3⟩
   cases e
   have h3:=h2.no hm3
   obtain⟨a3,c3,x3,s4,a4,n4,c4,x4,s5,g1,e3,e4,hm34,hw⟩:=(hw2.no hm3).put (cQ v.n) (by rw[l2];show _+8≤_;omega) (DJ v.n)
   have hlq:=(g0.no hm3).ld (X:=X) (i:=0) rfl cJ rfl cP
   have hlp:=g1.ld (X:=X) (i:=0) rfl cJ rfl cP
   rw[hlq] at hlp
   simp only[Option.some.injEq,OR.old.injEq] at hlp
   rw[←hlp] at e3
   have g3:=(gb h3).ld (X:=X) (i:=1) rfl lS rfl jl
   have g4:aO X 2 (.ptr (some (s.nx,1))) s4=some (.old (.int .i64 v.n)):=((gb h3).mod hm34 (fun e=>(hHw _ e).elim (fun e=>Nat.lt_irrefl _ (hlow _ e)) (fun e=>by omega))).ld (i:=1) rfl lS rfl jl
   have h5:WS s1 H1 b s5 ((S.app [aW v.kind]).cat (aW v.n)):=h3.wp hHw hw
   refine⟨_,(by simp(disch:=omega) only[uB,uT,Nat.reduceEqDiff,↓reduceIte,uE,aC,aA,bN,qi,ef,Nat.zero_add,hlq,g3,g4,nQ,e3,e4];exact rfl),?_⟩
   refine uH ?_
   obtain⟨Hw5,hw5,hHw5⟩:=h5.w
   obtain⟨x5,g05,b05,_⟩:=hw5.ex
   obtain⟨a05,c05,x05,e05⟩:=b05.slc
   rw[e05] at g05
   have l5:((S.app [aW v.kind]).cat (aW v.n)).len=S.len+16:=by rw[jB,l2];rfl
   have g25:=(gb h5).ld (X:=X) (i:=2) rfl eU rfl gi
   refine aV [(0,none),(1,none),(2,none),(3,none),(4,none),(5,none),(6,none),(7,none),(8,some [false,true,true,true,true,true,true,true]),(9,some [true,true,false,true,true,true,true]),(10,none),(11,none),(12,some [false,true,false,false,false,false,false,false])] (by kernel_rfl) (by kernel_rfl) (by simp(disch:=omega) only[uB,uT,Nat.reduceEqDiff,↓reduceIte,uD,mask,aC,aA,bN,qi,eQ,Nat.zero_add,g05.ld (i:=0) rfl cJ rfl cP,g25,zd eU lS];exact rfl) ?_
   refine cH (qq ho) ?_ ?_
   ·rintro r s6 ⟨s6',e,hm6⟩
    cases e
    have h6:=h5.no hm6
    have hnf:aW (i64 v.f)=wd v.f:=by unfold aW;rw[KL v2]
    rw[hnf]
    obtain⟨a7,c7,x7,s7,a8,n8,c8,x8,s8,g17,e7,e8,hm67,hw8⟩:=(hw5.no hm6).put (wG v2) (by rw[l5];show _+8≤_;omega) (fun e=>by cases congrArg Str.len e)
    have hlq6:=(g05.no hm6).ld (X:=X) (i:=0) rfl cJ rfl cP
    have hlp6:=g17.ld (X:=X) (i:=0) rfl cJ rfl cP
    rw[hlq6] at hlp6
    simp only[Option.some.injEq,OR.old.injEq] at hlp6
    rw[←hlp6] at e7
    have g26:=(gb h6).ld (X:=X) (i:=2) rfl eU rfl gi
    have g27:aO X 75 (.ptr (some (s.nx,2))) s7=some (.old (.int .u64 (v.f:Int))):=((gb h6).mod hm67 (fun e=>(hHw5 _ e).elim (fun e=>Nat.lt_irrefl _ (hlow _ e)) (fun e=>by omega))).ld (i:=2) rfl eU rfl gi
    have h8:WS s1 H1 b s8 (((S.app [aW v.kind]).cat (aW v.n)).cat (wd v.f)):=h6.wp hHw5 hw8
    have l8:(((S.app [aW v.kind]).cat (aW v.n)).cat (wd v.f)).len=S.len+24:=by rw[jB,l5];rfl
    refine⟨_,(by simp(disch:=omega) only[uB,uT,Nat.reduceEqDiff,↓reduceIte,uE,aC,aA,bN,qi,eQ,Nat.zero_add,hlq6,g26,g27,zd eU lS,nQ,e7,e8];exact rfl),?_⟩
    repeat(first|refine uS ?_ |refine aa rfl ?_ |refine ad (by simp(disch:=omega) only[uB,uT,eP,Nat.zero_add,(gb h8).ld (i:=3) rfl aE rfl aF];exact rfl) ?_)
    refine au (h8.w5 ho v1 (by omega)) ?_ ?_
    ·rintro r s9 ⟨s9',e,h9⟩
     cases e
     refine uL ?_
     refine uH ?_
     exact fw rfl ⟨s9,rfl,hup _ _ h9⟩
    ·rintro r s' ⟨_,e,_⟩
     cases e
   ·rintro r s' ⟨_,e,_⟩
    cases e
  ·rintro r s' ⟨_,e,_⟩
   cases e
 ·rintro r s' ⟨_,e,_⟩
  cases e
end
end Go.Proofs.Ytofohkdkpbigiaa
end
section
namespace Go.Proofs.Ytofohkdkpbigiaa
open Go.Am
set_option maxRecDepth 10000
set_option maxHeartbeats 1000000
set_option linter.unusedSimpArgs false
theorem Jm (f:Nat):Nat.land f 9223372036854775807=f % 9223372036854775808:=by
 have:=Nat.and_two_pow_sub_one_eq_mod f 63
 have e1:(2:Nat)^63- 1=9223372036854775807:=by decide
 have e2:(2:Nat)^63=9223372036854775808:=by decide
 rw[e1,e2] at this
 exact this
theorem Gi {X:Ctx}{t:TypeId}{c:Bool}{f:Nat}(h:f<18446744073709551616):aU X .andNot t c (.int .u64 (f:Int)) (.int .u64 9223372036854775808)=some (.int .u64 ((f % 9223372036854775808:Nat):Int)):=by
 have e1:(((f:Int) % (2^IntKind.u64.bits:Int))).toNat=f:=by
  show(((f:Int) % 18446744073709551616)).toNat=_
  omega
 have e2:(((9223372036854775808:Int) % (2^IntKind.u64.bits:Int))).toNat=9223372036854775808:=by decide
 have e3:2^IntKind.u64.bits- 1- 9223372036854775808=9223372036854775807:=by decide
 simp only[aU,fL,jJ,bitsOf,e1,e2,e3,Jm,if_true]
 rw[vI (Int.natCast_nonneg _) (by omega)]
section
variable {O:bk}
theorem Ff:X.fns.get 39=some Try.f39:=by kernel_rfl
theorem KO:X.fns.get 21=some Try.f21:=by kernel_rfl
theorem IZ:X.fns.get 20=some Try.f20:=by kernel_rfl
theorem Gt:X.fns.get 22=some Try.f22:=by kernel_rfl
theorem CC:X.fns.get 23=some Try.f23:=by kernel_rfl
theorem As (ho:O 39=none){s:St}{f:Nat}(hf:f<18446744073709551616):
  Ca X O (.fn 39) [.int .u64 (f:Int)] s fun z=>z= .ret (.int .u64 (canon f:Int)) s:=by
 refine aZ ho Ff rfl ?_
 unfold aB aB
 repeat(first|refine uS ?_ |refine aa rfl ?_ |refine ad (by simp(disch:=omega) only[uB,uT,Gi hf];exact rfl) ?_)
 refine uJ [0,5] ?_
 refine ae rfl rfl (fun hc=>?_) (fun hc=>?_)
 ·refine uG ?_
  refine ai rfl ?_
  unfold canon
  rw[if_pos (by simp at hc;omega)];rfl
 ·have h1:¬9218868437227405312<f % 9223372036854775808:=by simp at hc;omega
  refine uG ?_
  refine uJ [0,7] ?_
  refine ae rfl rfl (fun hc2=>?_) (fun hc2=>?_)
  ·refine uG ?_
   refine ai rfl ?_
   unfold canon
   rw[if_neg h1,if_pos (by simp at hc2;omega)];rfl
  ·refine uG ?_
   refine ai rfl ?_
   unfold canon
   rw[if_neg h1]
   by_cases h2:f % 9223372036854775808=0
   ·rw[if_pos h2]
    have:f=0:=by simp at hc2;omega
    rw[this];rfl
   ·rw[if_neg h2];rfl
theorem lF (ho:O 20=none){s:St}{n:Int}:
  Ca X O (.fn 20) [.int .i64 n] s fun z=>z= .ret (.bool (cZ n)) s:=by
 refine aZ ho IZ rfl ?_
 unfold aB aB
 cases d:decide (0≤n) with
 |true=>
  repeat(first|refine uS ?_ |refine aa rfl ?_ |refine ad (by simp(disch:=omega) only[uB,uT,d];exact rfl) ?_)
  refine ai rfl ?_
  have e:decide (n≤1099511627776)=cZ n:=by
   unfold cZ
   have:decide (n<0)=false:=by simp at d ⊢;omega
   rw[this,Bool.eq_iff_iff];simp
  rw[e];rfl
 |false=>
  repeat(first|refine uS ?_ |refine aa rfl ?_ |refine ad (by simp(disch:=omega) only[uB,uT,d];exact rfl) ?_)
  refine ai rfl ?_
  have e:cZ n=false:=by
   unfold cZ
   have:decide (n<0)=true:=by simp at d ⊢;omega
   rw[this];rfl
  rw[e];rfl
structure A3 (O:bk):Prop where
 canon:O 39=none
 may:O 21=none
 time:O 20=none
 rises:O 22=none
 writes:O 23=none
theorem F3 (ho:A3 O){s:St}{v:Vl}(hv:v.f<18446744073709551616):
  Ca X O (.fn 21) [.agg (vl v)] s fun z=>∃s',z= .ret (.bool (fa v)) s'∧Am.Mod No s s':=by
 refine aZ ho.may KO rfl ?_
 unfold aB aB
 (repeat(first|refine uS ?_ |refine aa rfl ?_));refine ad (by simp(disch:=omega) only[uB,uT,da (cs:=vl v) rfl];exact rfl) ?_;(repeat(first|refine uS ?_ |refine aa rfl ?_))
 refine eK fun s1 hn1 hm1 h1=>?_
 have lk0:aO X 3 (.ptr (some (s.nx,0))) s1=some (.old (.int .i64 v.kind)):=h1.ld (i:=0) rfl aJ rfl ay
 have ln:aO X 2 (.ptr (some (s.nx,1))) s1=some (.old (.int .i64 v.n)):=h1.ld (i:=1) rfl lS rfl jl
 have lf:aO X 75 (.ptr (some (s.nx,2))) s1=some (.old (.int .u64 (v.f:Int))):=h1.ld (i:=2) rfl eU rfl gi
 have ls:aO X 9 (.ptr (some (s.nx,3))) s1=some (.old (.str v.s)):=h1.ld (i:=3) rfl aE rfl aF
 have hf0:decide ((v.f:Int)=0)=decide (v.f=0):=by rw[Bool.eq_iff_iff,decide_eq_true_iff,decide_eq_true_iff];omega
 have hl40:decide ((v.s.len:Int)≤40)=decide (v.s.len≤40):=by rw[Bool.eq_iff_iff,decide_eq_true_iff,decide_eq_true_iff];omega
 repeat(first|refine uS ?_ |refine aa rfl ?_ |refine ad (by simp(disch:=omega) only[uB,uT,dX,Nat.zero_add,lk0];exact rfl) ?_)
 refine uJ [1,4,5] ?_
 refine ae rfl rfl (fun hc=>?_) (fun hc=>?_)
 ·have hk:v.kind=0:=by simpa using hc
  cases d1:decide (v.n=0) with
  |true=>
   cases d2:decide (v.f=0) with
   |true=>
    repeat(first|refine uS ?_ |refine aa rfl ?_ |refine ad (by simp(disch:=omega) only[uB,uT,dX,ef,eQ,eP,Nat.zero_add,lk0,ln,lf,ls,bn,aQ,hf0,aK aE,hl40,d1,d2];exact rfl) ?_)
    refine ai rfl ?_
    refine⟨s1,?_,hm1⟩
    unfold fa
    rw[if_pos hk]
    simp only[eX,d1,d2,Bool.true_and,Bool.false_and,Bool.and_true,Bool.true_or,Bool.false_or]
   |false=>
    repeat(first|refine uS ?_ |refine aa rfl ?_ |refine ad (by simp(disch:=omega) only[uB,uT,dX,ef,eQ,eP,Nat.zero_add,lk0,ln,lf,ls,bn,aQ,hf0,aK aE,hl40,d1,d2];exact rfl) ?_)
    refine ai rfl ?_
    refine⟨s1,?_,hm1⟩
    unfold fa
    rw[if_pos hk]
    simp only[eX,d1,d2,Bool.true_and,Bool.false_and,Bool.and_true,Bool.true_or,Bool.false_or]
  |false=>
   repeat(first|refine uS ?_ |refine aa rfl ?_ |refine ad (by simp(disch:=omega) only[uB,uT,dX,ef,eQ,eP,Nat.zero_add,lk0,ln,lf,ls,bn,aQ,hf0,aK aE,hl40,d1];exact rfl) ?_)
   refine ai rfl ?_
   refine⟨s1,?_,hm1⟩
   unfold fa
   rw[if_pos hk]
   simp only[eX,d1,Bool.true_and,Bool.false_and,Bool.and_true,Bool.true_or,Bool.false_or]
 ·have hk0:¬v.kind=0:=by simpa using hc
  refine uG ?_
  refine uJ [1,4,20] ?_
  refine ae rfl rfl (fun hc=>?_) (fun hc=>?_)
  ·have hk:v.kind=1:=by simpa using hc
   cases d1:decide (v.n=0) with
   |true=>
    cases d2:decide (v.f=0) with
    |true=>
     repeat(first|refine uS ?_ |refine aa rfl ?_ |refine ad (by simp(disch:=omega) only[uB,uT,dX,ef,eQ,eP,Nat.zero_add,lk0,ln,lf,ls,bn,aQ,hf0,aK aE,hl40,d1,d2];exact rfl) ?_)
     refine ai rfl ?_
     refine⟨s1,?_,hm1⟩
     unfold fa
     rw[if_neg hk0,if_pos hk]
     simp only[eX,d1,d2,Bool.true_and,Bool.false_and,Bool.and_true,Bool.true_or,Bool.false_or]
    |false=>
     repeat(first|refine uS ?_ |refine aa rfl ?_ |refine ad (by simp(disch:=omega) only[uB,uT,dX,ef,eQ,eP,Nat.zero_add,lk0,ln,lf,ls,bn,aQ,hf0,aK aE,hl40,d1,d2];exact rfl) ?_)
     refine ai rfl ?_
     refine⟨s1,?_,hm1⟩
     unfold fa
     rw[if_neg hk0,if_pos hk]
     simp only[eX,d1,d2,Bool.true_and,Bool.false_and,Bool.and_true,Bool.true_or,Bool.false_or]
   |false=>
    cases d3:decide (v.n=1) with
    |true=>
     cases d2:decide (v.f=0) with
     |true=>
      repeat(first|refine uS ?_ |refine aa rfl ?_ |refine ad (by simp(disch:=omega) only[uB,uT,dX,ef,eQ,eP,Nat.zero_add,lk0,ln,lf,ls,bn,aQ,hf0,aK aE,hl40,d1,d3,d2];exact rfl) ?_)
      refine ai rfl ?_
      refine⟨s1,?_,hm1⟩
      unfold fa
      rw[if_neg hk0,if_pos hk]
      simp only[eX,d1,d3,d2,Bool.true_and,Bool.false_and,Bool.and_true,Bool.true_or,Bool.false_or]
     |false=>
      repeat(first|refine uS ?_ |refine aa rfl ?_ |refine ad (by simp(disch:=omega) only[uB,uT,dX,ef,eQ,eP,Nat.zero_add,lk0,ln,lf,ls,bn,aQ,hf0,aK aE,hl40,d1,d3,d2];exact rfl) ?_)
      refine ai rfl ?_
      refine⟨s1,?_,hm1⟩
      unfold fa
      rw[if_neg hk0,if_pos hk]
      simp only[eX,d1,d3,d2,Bool.true_and,Bool.false_and,Bool.and_true,Bool.true_or,Bool.false_or]
    |false=>
     repeat(first|refine uS ?_ |refine aa rfl ?_ |refine ad (by simp(disch:=omega) only[uB,uT,dX,ef,eQ,eP,Nat.zero_add,lk0,ln,lf,ls,bn,aQ,hf0,aK aE,hl40,d1,d3];exact rfl) ?_)
     refine ai rfl ?_
     refine⟨s1,?_,hm1⟩
     unfold fa
     rw[if_neg hk0,if_pos hk]
     simp only[eX,d1,d3,Bool.true_and,Bool.false_and,Bool.and_true,Bool.true_or,Bool.false_or]
  ·have hk1:¬v.kind=1:=by simpa using hc
   refine uG ?_
   refine uJ [1,4,40] ?_
   refine ae rfl rfl (fun hc=>?_) (fun hc=>?_)
   ·have hk:v.kind=2:=by simpa using hc
    cases d2:decide (v.f=0) with
    |true=>
     repeat(first|refine uS ?_ |refine aa rfl ?_ |refine ad (by simp(disch:=omega) only[uB,uT,dX,ef,eQ,eP,Nat.zero_add,lk0,ln,lf,ls,bn,aQ,hf0,aK aE,hl40,d2];exact rfl) ?_)
     refine ai rfl ?_
     refine⟨s1,?_,hm1⟩
     unfold fa
     rw[if_neg hk0,if_neg hk1,if_pos hk]
     simp only[eX,d2,Bool.true_and,Bool.false_and,Bool.and_true,Bool.true_or,Bool.false_or]
    |false=>
     repeat(first|refine uS ?_ |refine aa rfl ?_ |refine ad (by simp(disch:=omega) only[uB,uT,dX,ef,eQ,eP,Nat.zero_add,lk0,ln,lf,ls,bn,aQ,hf0,aK aE,hl40,d2];exact rfl) ?_)
     refine ai rfl ?_
     refine⟨s1,?_,hm1⟩
     unfold fa
     rw[if_neg hk0,if_neg hk1,if_pos hk]
     simp only[eX,d2,Bool.true_and,Bool.false_and,Bool.and_true,Bool.true_or,Bool.false_or]
   ·have hk2:¬v.kind=2:=by simpa using hc
    refine uG ?_
    refine uJ [1,4,50] ?_
    refine ae rfl rfl (fun hc=>?_) (fun hc=>?_)
    ·have hk:v.kind=3:=by simpa using hc
     refine uH ?_
     cases d1:decide (v.n=0) with
     |true=>
      cases d4:v.s.beq bE with
      |true=>
       refine aV [(0,none),(1,none),(2,none),(3,none),(4,none),(5,none),(6,none),(7,none),(8,none),(9,none),(10,none),(12,none),(13,none),(11,some [true,true,false,true,false,true,true,true,true,true,true,true,true]),(14,none),(15,none),(16,some [false,false,false,false,false,false,false,false,false,false,false,false,false])] (by kernel_rfl) (by kernel_rfl) (by simp(disch:=omega) only[uB,uT,Nat.reduceEqDiff,↓reduceIte,uD,mask,aC,aA,dX,ef,eQ,eP,Nat.zero_add,lk0,ln,lf,ls,bn,aQ,hf0,aK aE,hl40,d1,d4];exact rfl) ?_
       refine cH (As ho.canon hv) ?_ ?_
       ·rintro r s' e
        cases e
        have hcf:decide ((canon v.f:Int)=(v.f:Int))=decide (canon v.f=v.f):=by rw[Bool.eq_iff_iff,decide_eq_true_iff,decide_eq_true_iff];omega
        refine⟨_,(by simp(disch:=omega) only[uB,uT,Nat.reduceEqDiff,↓reduceIte,uE,aC,aA,dX,ef,eQ,eP,Nat.zero_add,lk0,ln,lf,ls,bn,aQ,hf0,aK aE,hl40,d1,d4];exact rfl),?_⟩
        refine uH ?_
        refine ai rfl ?_
        refine⟨_,?_,hm1⟩
        unfold fa
        rw[if_neg hk0,if_neg hk1,if_neg hk2,if_pos hk]
        simp only[eX,d1,d4,hcf,Bool.true_and,Bool.false_and,Bool.and_true]
       ·rintro r s' e
        cases e
      |false=>
       refine aV [(0,none),(1,none),(2,none),(3,none),(4,none),(5,none),(6,none),(7,none),(8,none),(9,none),(10,none),(12,none),(13,none),(11,some [true,true,false,true,false,true,true,true,true,true,true,true,true]),(14,none),(15,none),(16,some [false,false,false,false,false,false,false,false,false,false,false,false,false])] (by kernel_rfl) (by kernel_rfl) (by simp(disch:=omega) only[uB,uT,Nat.reduceEqDiff,↓reduceIte,uD,mask,aC,aA,dX,ef,eQ,eP,Nat.zero_add,lk0,ln,lf,ls,bn,aQ,hf0,aK aE,hl40,d1,d4];exact rfl) ?_
       refine uH ?_
       refine ai rfl ?_
       refine⟨s1,?_,hm1⟩
       unfold fa
       rw[if_neg hk0,if_neg hk1,if_neg hk2,if_pos hk,d1,d4]<;>rfl
     |false=>
      refine aV [(0,none),(1,none),(2,none),(3,none),(4,none),(5,none),(6,none),(7,none),(8,none),(9,none),(10,none),(12,none),(13,none),(11,some [true,true,false,true,false,true,true,true,true,true,true,true,true]),(14,none),(15,none),(16,some [false,false,false,false,false,false,false,false,false,false,false,false,false])] (by kernel_rfl) (by kernel_rfl) (by simp(disch:=omega) only[uB,uT,Nat.reduceEqDiff,↓reduceIte,uD,mask,aC,aA,dX,ef,eQ,eP,Nat.zero_add,lk0,ln,lf,ls,bn,aQ,hf0,aK aE,hl40,d1];exact rfl) ?_
      refine uH ?_
      refine ai rfl ?_
      refine⟨s1,?_,hm1⟩
      unfold fa
      rw[if_neg hk0,if_neg hk1,if_neg hk2,if_pos hk,d1]<;>rfl
    ·have hk3:¬v.kind=3:=by simpa using hc
     cases d4:decide (v.kind=4) with
     |true=>
      have h4:v.kind=4∨v.kind=5:= .inl (by simpa using d4)
      repeat(first|refine uS ?_ |refine aa rfl ?_ |refine ad (by simp(disch:=omega) only[uB,uT,d4];exact rfl) ?_)
      refine uJ [1,4,68] ?_
      refine ae rfl rfl (fun hc=>?_) (fun hc=>?_)
      ·refine uG ?_
       refine ae rfl rfl (fun hc=>?_) (fun hc=>?_)
       ·
        cases d1:decide (v.n=0) with
        |true=>
         cases d2:decide (v.f=0) with
         |true=>
          repeat(first|refine uS ?_ |refine aa rfl ?_ |refine ad (by simp(disch:=omega) only[uB,uT,dX,ef,eQ,eP,Nat.zero_add,lk0,ln,lf,ls,bn,aQ,hf0,aK aE,hl40,d1,d2];exact rfl) ?_)
          refine ai rfl ?_
          refine⟨s1,?_,hm1⟩
          unfold fa
          rw[if_neg hk0,if_neg hk1,if_neg hk2,if_neg hk3,if_pos h4]
          simp only[eX,d1,d2,Bool.true_and,Bool.false_and,Bool.and_true,Bool.true_or,Bool.false_or]
         |false=>
          repeat(first|refine uS ?_ |refine aa rfl ?_ |refine ad (by simp(disch:=omega) only[uB,uT,dX,ef,eQ,eP,Nat.zero_add,lk0,ln,lf,ls,bn,aQ,hf0,aK aE,hl40,d1,d2];exact rfl) ?_)
          refine ai rfl ?_
          refine⟨s1,?_,hm1⟩
          unfold fa
          rw[if_neg hk0,if_neg hk1,if_neg hk2,if_neg hk3,if_pos h4]
          simp only[eX,d1,d2,Bool.true_and,Bool.false_and,Bool.and_true,Bool.true_or,Bool.false_or]
        |false=>
         repeat(first|refine uS ?_ |refine aa rfl ?_ |refine ad (by simp(disch:=omega) only[uB,uT,dX,ef,eQ,eP,Nat.zero_add,lk0,ln,lf,ls,bn,aQ,hf0,aK aE,hl40,d1];exact rfl) ?_)
         refine ai rfl ?_
         refine⟨s1,?_,hm1⟩
         unfold fa
         rw[if_neg hk0,if_neg hk1,if_neg hk2,if_neg hk3,if_pos h4]
         simp only[eX,d1,Bool.true_and,Bool.false_and,Bool.and_true,Bool.true_or,Bool.false_or]
       ·cases hc
      ·cases hc
     |false=>
      repeat(first|refine uS ?_ |refine aa rfl ?_ |refine ad (by simp(disch:=omega) only[uB,uT,d4];exact rfl) ?_)
      refine uJ [1,4,68] ?_
      refine ae rfl rfl (fun hc=>?_) (fun hc=>?_)
      ·cases hc
      ·cases d5:decide (v.kind=5) with
       |true=>
        have h4:v.kind=4∨v.kind=5:= .inr (by simpa using d5)
        repeat(first|refine uS ?_ |refine aa rfl ?_ |refine ad (by simp(disch:=omega) only[uB,uT,d5];exact rfl) ?_)
        refine uJ [1,4,68] ?_
        refine ae rfl rfl (fun hc=>?_) (fun hc=>?_)
        ·
         cases d1:decide (v.n=0) with
         |true=>
          cases d2:decide (v.f=0) with
          |true=>
           repeat(first|refine uS ?_ |refine aa rfl ?_ |refine ad (by simp(disch:=omega) only[uB,uT,dX,ef,eQ,eP,Nat.zero_add,lk0,ln,lf,ls,bn,aQ,hf0,aK aE,hl40,d1,d2];exact rfl) ?_)
           refine ai rfl ?_
           refine⟨s1,?_,hm1⟩
           unfold fa
           rw[if_neg hk0,if_neg hk1,if_neg hk2,if_neg hk3,if_pos h4]
           simp only[eX,d1,d2,Bool.true_and,Bool.false_and,Bool.and_true,Bool.true_or,Bool.false_or]
          |false=>
           repeat(first|refine uS ?_ |refine aa rfl ?_ |refine ad (by simp(disch:=omega) only[uB,uT,dX,ef,eQ,eP,Nat.zero_add,lk0,ln,lf,ls,bn,aQ,hf0,aK aE,hl40,d1,d2];exact rfl) ?_)
           refine ai rfl ?_
           refine⟨s1,?_,hm1⟩
           unfold fa
           rw[if_neg hk0,if_neg hk1,if_neg hk2,if_neg hk3,if_pos h4]
           simp only[eX,d1,d2,Bool.true_and,Bool.false_and,Bool.and_true,Bool.true_or,Bool.false_or]
         |false=>
          repeat(first|refine uS ?_ |refine aa rfl ?_ |refine ad (by simp(disch:=omega) only[uB,uT,dX,ef,eQ,eP,Nat.zero_add,lk0,ln,lf,ls,bn,aQ,hf0,aK aE,hl40,d1];exact rfl) ?_)
          refine ai rfl ?_
          refine⟨s1,?_,hm1⟩
          unfold fa
          rw[if_neg hk0,if_neg hk1,if_neg hk2,if_neg hk3,if_pos h4]
          simp only[eX,d1,Bool.true_and,Bool.false_and,Bool.and_true,Bool.true_or,Bool.false_or]
        ·cases hc
       |false=>
        repeat(first|refine uS ?_ |refine aa rfl ?_ |refine ad (by simp(disch:=omega) only[uB,uT,d5];exact rfl) ?_)
        refine uJ [1,4,68] ?_
        refine ae rfl rfl (fun hc=>?_) (fun hc=>?_)
        ·cases hc
        ·refine uG ?_
         refine ai rfl ?_
         refine⟨s1,?_,hm1⟩
         unfold fa
         rw[if_neg hk0,if_neg hk1,if_neg hk2,if_neg hk3,if_neg (by simp at d4 d5;omega)];rfl
end
end Go.Proofs.Ytofohkdkpbigiaa
end
