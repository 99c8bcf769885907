/-
  A part of the texts.
-/
import Derived.Test.YtofohkdkpbigiaaQap
section
namespace Go.Proofs.Ytofohkdkpbigiaa
open Go.Am
set_option maxRecDepth 10000
set_option maxHeartbeats 1000000
set_option linter.unusedSimpArgs false
structure Chk where
 f:FuncId
 cap:List AV
 code:Int
 bad:Bool
def chk (k:Chk):List AV:=[.func (.func k.f) [] k.cap, .int .i64 k.code]
theorem Me {ks:List Chk}:∀r∈ks.map chk,r.length=2:=fun r hr=>by
 obtain⟨q,_,rfl⟩:=List.mem_map.mp hr;rfl
theorem Oj {t:Int}{m:MM}{c:Cmd}{k:List Chk}(h:k.map (fun k=>(k.code,k.bad))=[(1,decide (t≤c.snap)),(14,decide (0<c.dl∧c.dl<t)),(15,decide (t<c.after)),(13,Bl m.st c),(4,decide (m.room- m.st.size<(og m.st c:Int)))]):
  vO m c t=((k.find? (·.bad)).map (·.code)).getD 0:=by
 match k,h with
 |[k1,k2,k3,k4,k5],h=>
  simp only[List.map_cons,List.map_nil,List.cons.injEq,Prod.mk.injEq,and_true] at h
  obtain⟨⟨a1,b1⟩,⟨a2,b2⟩,⟨a3,b3⟩,⟨a4,b4⟩,⟨a5,b5⟩⟩:=h
  unfold vO
  simp only[List.find?_cons,List.find?_nil,b1,b2,b3,b4,b5]
  by_cases h1:t≤c.snap
  ·simp[h1,a1]
  ·by_cases h2:0<c.dl∧c.dl<t
   ·simp[h1,h2,a2]
   ·by_cases h3:t<c.after
    ·simp[h1,h2,h3,a3]
    ·cases h4:Bl m.st c
     ·by_cases h5:m.room- m.st.size<(og m.st c:Int)
      ·simp[h1,h2,h3,h5,a5]
      ·simp[h1,h2,h3,h5]
     ·simp[h1,h2,h3,a4]
 |[],h=>simp at h
 |[_],h=>simp at h
 |[_,_],h=>simp at h
 |[_,_,_],h=>simp at h
 |[_,_,_,_],h=>simp at h
 | _::_::_::_::_::_::_,h=>simp at h
section
variable {O:bj}
theorem Qt {b off:Nat}:af X 124 (.ptr (some (b,off))) 0=some (.pure (.ptr (some (b,off)))):=by
 simp only[af,sL,bh,List.getElem?_cons_zero,List.getElem?_cons_succ,vb,Nat.add_zero]
theorem Qz {b off:Nat}:af X 124 (.ptr (some (b,off))) 1=some (.pure (.ptr (some (b,off+1)))):=by
 simp only[af,sL,bh,List.getElem?_cons_zero,List.getElem?_cons_succ,eM,Nat.add_zero]
theorem NO:X.und 47=some (.func #[] #[4] false):=by kernel_rfl
theorem MaR.rm {s:St}{p:AV}{m:MM}{y:kd}(h:MaR s p m y):y.cs.get 0=some (.int .i64 m.room):=h.cell.1
theorem Ci (ho:Bp O){s:St}{p:AV}{m:MM}{y:kd}(h:MaR s p m y)(hk:SOK m.st)(hr:m.room≤4096){c:Cmd}{z:CL}(hc:jI s c z){b1 b2:Nat}(h1:Bx s b1 [p])(h2:Bx s b2 (bY c z))(hr0:m.st.room=m.room):
  Ca X O (.fn 56) [.ptr (some (b1,0)), .ptr (some (b2,0))] s fun r=>∃s',r= .ret (.bool (decide (m.room- m.st.size<(og m.st c:Int)))) s'∧Am.Mod No s s':=by
 have hp:=h.ptr
 subst hp
 have hsz:=hk.size
 obtain⟨c2,hst⟩:=h.sp
 refine bb ho.code5 IU rfl ?_
 unfold aD aD aD
 refine uG ?_
 refine aU [(0,none),(1,none),(3,none),(4,none),(5,none),(6,none),(7,none),(8,none),(9,none),(10,none),(2,some [true,true,true,true,true,true,true,true,false,false]),(11,some [false,true,true,true,true,true,true,true]),(12,none),(13,none),(14,some [false,false,false,false,false,false,false,false,false])] (by kernel_rfl) (by kernel_rfl) (by simp(disch:=omega) only[uB,uT,Nat.reduceEqDiff,↓reduceIte,uD,mask,aC,aB,hc.same,h1.ld (i:=0) rfl mc rfl lu,h2.all bZ rfl cn,bN,yZ,eJ,Nat.zero_add,ah aN rfl ay h.hmb h.rm,ah du rfl dw h.hmb c2];exact rfl) ?_
 refine cg (CO ho h hk hc) ?_ ?_
 ·rintro r s1 ⟨s1',e,hm1⟩
  cases e
  have h':=h.no hm1
  obtain⟨_,hst'⟩:=h'.sp
  have h1':=h1.no hm1
  have h2':=h2.no hm1
  refine⟨_,(by simp(disch:=omega) only[uB,uT,Nat.reduceEqDiff,↓reduceIte,uE,aC,aB,hc.same,h1'.ld (i:=0) rfl mc rfl lu,h2'.all bZ rfl cn,bN,yZ,eJ,Nat.zero_add,ah aN rfl ay h'.hmb h'.rm,ah du rfl dw h'.hmb c2];exact rfl),?_⟩
  refine cg (tE ho.size hst') ?_ ?_
  ·rintro r s2 e
   cases e
   refine⟨_,(by simp(disch:=omega) only[uB,uT,Nat.reduceEqDiff,↓reduceIte,uE,aC,aB,hc.same,h1'.ld (i:=0) rfl mc rfl lu,h2'.all bZ rfl cn,bN,yZ,eJ,Nat.zero_add,ah aN rfl ay h'.hmb h'.rm,ah du rfl dw h'.hmb c2];exact rfl),?_⟩
   refine uH ?_
   refine ai rfl ?_
   exact⟨s1,rfl,hm1⟩
  ·rintro r s' e
   cases e
 ·rintro r s' ⟨_,e,_⟩
  cases e
theorem Dg {s:St}{k1 k2 k3 k4 k5:Chk}:bB X 126 5 [(0, .agg (chk k1)),(1, .agg (chk k2)),(2, .agg (chk k3)),(3, .agg (chk k4)),(4, .agg (chk k5))] s=some (.val (.slc (some (s.nx,0,2)) 5 5 true) {s with h:=s.h.put s.nx (.cells (Tr.of ([k1,k2,k3,k4,k5].map chk).flatten) 10),nx:=s.nx+1}):=by
 simp only[bB,ve,pE,rp]
 simp only[eG,lR,dc,AV.cells,chk,dB,fE,aX,iF]
 rfl
theorem FU {f:FuncId}{cap:List AV}{n:Int}:bz X 124 [(0, .func (.func f) [] cap),(1, .int .i64 n)]=some (.pure (.agg [.func (.func f) [] cap, .int .i64 n])):=by
 simp only[bz,sL,rp,cS,vb,eM,cL,dc,AV.cells,dB,fB]
 rfl
theorem Fo {b m x:Nat}{c c':Tr AV}{k:Chk}{t0:Tr AB}{g:Tr (Tr AV)}{sh:List Nat}(hs:stL (chk k) 0 c=some c'):cK X 124 (.ptr (some (b,0))) (.agg (chk k)) {h:=t0.put b (.cells c m),nx:=x,gl:=g,sh:=sh}=some (.val (.tup []) {h:=(t0.put b (.cells c m)).put b (.cells c' m),nx:=x,gl:=g,sh:=sh}):=
 dC pE rfl rfl hs
theorem Gc (ho:Bp O){s:St}{p:AV}{m:MM}{y:kd}(h:MaR s p m y)(hk:SOK m.st)(hr:m.room≤4096)(hr0:m.st.room=m.room){c:Cmd}{z:CL}(hc:jI s c z){t:Int}:
  Ca X O (.fn 35) [p, .agg (bY c z), .int .i64 t] s fun r=>∃s',r= .ret (.int .i64 (vO m c t)) s'∧Am.Mod No s s':=by
 have hp:=h.ptr
 subst hp
 refine bb ho.code Mf rfl ?_
 unfold aD aD aD aD
 (repeat(first|refine uS ?_ |refine aa rfl ?_));refine ad (by simp(disch:=omega) only[uB,uT,cX (cs:=bY c z) hc.qI];exact rfl) ?_;(repeat(first|refine uS ?_ |refine aa rfl ?_))
 refine NH fun s1 hn1 hm1 h1 h2 h3=>?_
 have h':=h.no hm1
 have hc':=hc.no hm1
 let k1:Chk:=⟨51,[.ptr (some (s.nx+1,0)), .ptr (some (s.nx+2,0))],1,decide (t≤c.snap)⟩
 let k2:Chk:=⟨52,[.ptr (some (s.nx+1,0)), .ptr (some (s.nx+2,0))],14,decide (0<c.dl∧c.dl<t)⟩
 let k3:Chk:=⟨53,[.ptr (some (s.nx+2,0)), .ptr (some (s.nx+1,0))],15,decide (t<c.after)⟩
 let k4:Chk:=⟨54,[.ptr (some (s.nx,0)), .ptr (some (s.nx+1,0))],13,Bl m.st c⟩
 let k5:Chk:=⟨56,[.ptr (some (s.nx,0)), .ptr (some (s.nx+1,0))],4,decide (m.room- m.st.size<(og m.st c:Int))⟩
 have hks:∀k∈[k1,k2,k3,k4,k5],∀s',Am.Mod No s1 s'→Ca X O (.fn k.f) k.cap s' fun r=>∃s2,r= .ret (.bool k.bad) s2∧Am.Mod No s' s2:=by
  intro k hk' s' hm
  simp only[List.mem_cons,List.not_mem_nil,or_false] at hk'
  rcases hk' with rfl|rfl|rfl|rfl|rfl
  ·exact CB ho.code1 (h2.no hm) (h3.no hm)
  ·exact CQ ho.code2 (h2.no hm) (h3.no hm)
  ·exact Dq ho.code3 (h2.no hm) (h3.no hm)
  ·exact Cd ho (h'.no hm) hk (hc'.no hm) (h1.no hm) (h2.no hm)
  ·exact Ci ho (h'.no hm) hk hr (hc'.no hm) (h1.no hm) (h2.no hm) hr0
 rw[Oj (t:=t) (m:=m) (c:=c) (k:=[k1,k2,k3,k4,k5]) rfl]
 have hs5:= @Dg s1 k1 k2 k3 k4 k5
 simp only[chk,k1,k2,k3,k4,k5] at hs5
 (repeat(first|refine uS ?_ |refine aa rfl ?_));refine ad (by simp(disch:=omega) only[uB,uT];exact rfl) ?_;(repeat(first|refine uS ?_ |refine aa rfl ?_))
 (repeat(first|refine uS ?_ |refine aa rfl ?_));refine ad (by simp(disch:=omega) only[uB,uT,FU,hs5];exact rfl) ?_;(repeat(first|refine uS ?_ |refine aa rfl ?_))
 refine eE fun s2 hn2 hm2 h4=>?_
 have hsl:Sli s2 (.slc (some (s1.nx,0,2)) 5 5 true) 2 ([k1,k2,k3,k4,k5].map chk):=h4.sli (Me (ks:=[k1,k2,k3,k4,k5])) rfl
 have hkl:[k1,k2,k3,k4,k5].length=5:=rfl
 clear hs5
 generalize [k1,k2,k3,k4,k5]=ks at*
 have hl5:((5:Nat):Int)=5:=rfl
 let I:Nat→Sl→St→Prop:=fun i L s'=>Am.Mod No s2 s'∧i≤5∧(ks.take i).find? (·.bad)=none∧L=[(7, .int .i64 0),(20, .slc (some (s1.nx,0,2)) 5 5 true),(21, .int .i64 5),(22, .int .i64 (i:Int))]
 refine WL.less (M:=[(7, .int .i64 0),(20, .slc (some (s1.nx,0,2)) 5 5 true),(21, .int .i64 5),(22, .int .i64 ((0:Nat):Int))]) ?_ rfl
 refine aV I (fun i=>5- i) ?_ 5 0 _ s2 (by simp) ⟨Mod.refl _ _,Nat.zero_le _,rfl,rfl⟩
 rintro i L s3 ⟨hm3,hi,hno,rfl⟩
 have hm13:=hm2.trans hm3 (fun _ _ h=>h)
 refine uG ?_
 refine uJ [7,20,21,22,23] ?_
 refine ae rfl rfl (fun hc2=>?_) (fun hc2=>?_)
 ·simp at hc2
  obtain⟨q,hq⟩:∃q,ks[i]? =some q:=⟨_,List.getElem?_eq_getElem (by omega)⟩
  have hqm:=List.mem_of_getElem? hq
  obtain⟨b5,off5,c5,x5,t5,n5,e5,_,g2,g3⟩:=(hsl.mod hm3 (fun _ _ h=>h)).at (i:=i) (r:=chk q) (by simp[hq])
  rw[List.length_map,hkl] at e5
  cases e5
  obtain⟨cc2,hcc,_⟩:=ej (cs:=chk q) (zs:=[.nilFunc, .int .i64 0]) rfl
  (repeat(first|refine uS ?_ |refine aa rfl ?_));refine ad (by simp(disch:=omega) only[uB,uT,aQ ve pE,cE sL rfl pE g2 g3,Int.toNat_natCast,bQ rp rfl,AV.cells,Fo hcc];exact rfl) ?_;(repeat(first|refine uS ?_ |refine aa rfl ?_))
  refine dy hcc fun s4 hn4 hm4 g4=>?_
  repeat(first|refine uS ?_ |refine aa rfl ?_ |refine ad (by simp(disch:=omega) only[uB,uT,Qt,Nat.zero_add,g4.ld (i:=0) rfl NO rfl vb];exact rfl) ?_)
  refine aj (hks q hqm s4 (hm13.trans hm4 (fun _ _ h=>h))) ?_ ?_
  ·rintro r s5 ⟨s5',e,hm5⟩
   cases e
   have g5:=g4.no hm5
   refine uL ?_
   refine uH ?_
   refine uJ [7,9,20,21,22,28] ?_
   have hmm:=(hm3.trans hm4 (fun _ _ h=>h)).trans hm5 (fun _ _ h=>h)
   refine ae rfl rfl (fun hc3=>?_) (fun hc3=>?_)
   ·repeat(first|refine uS ?_ |refine aa rfl ?_ |refine ad (by simp(disch:=omega) only[uB,uT,Qz,Nat.zero_add,g5.ld (i:=1) rfl oh rfl eM];exact rfl) ?_)
    refine ai rfl ?_
    refine⟨s5,?_,hm1.trans (hm2.trans hmm (fun _ _ h=>h)) (fun _ _ h=>h)⟩
    have hf:ks.find? (·.bad)=some q:=by
     have hd:ks.drop i=q::ks.drop (i+1):=by
      rw[List.drop_eq_getElem_cons (by omega)]
      rw[List.getElem?_eq_getElem (by omega)] at hq
      cases hq;rfl
     rw[(List.take_append_drop i ks).symm,List.find?_append,hno,hd]
     simp[List.find?_cons,hc3]
    rw[hf];rfl
   ·refine uG ?_
    refine aH (i+1) [(7, .int .i64 0),(20, .slc (some (s1.nx,0,2)) 5 5 true),(21, .int .i64 5),(22, .int .i64 ((i+1:Nat):Int))] ⟨hmm,by omega,?_,rfl⟩ (by show 5- (i+1)<5- i;omega) (by simp[aI,az])
    rw[List.take_add_one,hq,List.find?_append,hno]
    simp[hc3]
  ·rintro r s' ⟨_,e,_⟩
   cases e
 ·simp at hc2
  have:i=5:=by omega
  subst this
  refine uG ?_
  refine ai rfl ?_
  refine⟨s3,?_,hm1.trans hm13 (fun _ _ h=>h)⟩
  rw[List.take_of_length_le (by omega)] at hno
  rw[hno];rfl
end
end Go.Proofs.Ytofohkdkpbigiaa
end
section
namespace Go.Proofs.Ytofohkdkpbigiaa
open Go.Am
set_option maxRecDepth 10000
set_option maxHeartbeats 1000000
set_option linter.unusedSimpArgs false
def WrR (t:Int)(w:Str×Str×Bool)(m m':SM):Prop:=∃e,(w.2.2=true∧NT m t w.1 m' e)∨(w.2.2=false∧Nq m t w.1 w.2.1 m' e)
inductive xe (t:Int):List (Str×Str×Bool)→SM→SM→Prop
 |nil {m:SM}:xe t [] m m
 |snoc {l:List (Str×Str×Bool)} {w:Str×Str×Bool} {m m1 m2:SM}:xe t l m m1→WrR t w m1 m2→xe t (l++[w]) m m2
def q7:List (Int×Int×Int)→Int→Int×Int→List (Int×Int×Int)
 |[],k,v=>[(k,v)]
 |(a,w)::l,k,v=>if k=a then(a,v)::l else(a,w)::q7 l k v
theorem Bt {k:Int}{v:Int×Int}:∀ {es:List (AV×AV)} {l:List (Int×Int×Int)},dM (fun e a=>e.1= .int .i64 a.1∧e.2= .agg [.int .i64 a.2.1, .int .i64 a.2.2]) es l→
  ∃es',nz (.int .i64 k) (.agg [.int .i64 v.1, .int .i64 v.2]) es=some es'∧dM (fun e a=>e.1= .int .i64 a.1∧e.2= .agg [.int .i64 a.2.1, .int .i64 a.2.2]) es' (q7 l k v)
 |[],[],_=>⟨_,rfl,⟨rfl,rfl⟩,trivial⟩
 |[],_::_,h=>h.elim
 | _::_,[],h=>h.elim
 |(a,u)::es,(b,q)::l,⟨⟨h1,h2⟩,h3⟩=>by
  simp only at h1 h2
  subst h1 h2
  simp only[nz,yE,q7]
  by_cases e:k=b
  ·rw[if_pos e];simp only[e,decide_true];exact⟨_,rfl,⟨rfl,rfl⟩,h3⟩
  ·rw[if_neg e];simp only[e,decide_false]
   obtain⟨es',h4,h5⟩:=Bt (k:=k) (v:=v) h3
   rw[h4]
   exact⟨_,rfl,⟨rfl,rfl⟩,h5⟩
def uk (m:MM)(k:Int):Int×Int:=(lkC m.last k).getD (0,0)
def mU (m:MM)(c:Cmd):Bool:=decide (0<c.client)&& (decide (c.seq≤(uk m c.client).1)&& (lkC m.last c.client).isSome)
def B9 (m:MM)(c:Cmd)(t:Int)(m':MM)(code:Int):Prop:=
 (mU m c=true∧m'=m∧code=if(uk m c.client).1=c.seq then(uk m c.client).2 else 6)∨
 (mU m c=false∧c.kind=0∧m'=m∧code=0)∨
 (mU m c=false∧c.kind≠0∧code=vO m c t∧∃st,((code=0∧xe t c.writes m.st st)∨(code≠0∧st=m.st))∧m'={m with st:=st,last:=if 0<c.client then q7 m.last c.client (c.seq,code) else m.last})
structure MOK (m:MM):Prop where
 st:SOK m.st
 room:m.room≤4096
 same:m.st.room=m.room
theorem yK {m m':SM}{k:Str}{v:Ver}{e:Int}(h:Hq m k v m' e):m'.room=m.room:=by
 rcases h with⟨_,_,_,rfl⟩|⟨_,_,_,rfl⟩|⟨_,_,_,h,_⟩
 ·rfl
 ·rfl
 ·exact h
theorem yq {m:SM}{t:Int}(h:uu m t=true):m.last≤t:=by simp[uu] at h;exact h.2.2
theorem El {m m':SM}{t:Int}{k w:Str}{e:Int}(h:SOK m)(hp:Nq m t k w m' e):SOK m'∧m'.room=m.room:=by
 rcases hp with⟨_,rfl,_⟩|⟨h1,h2⟩
 ·exact⟨h,rfl⟩
 ·exact⟨Em h h2 (yq h1),yK h2⟩
theorem D8 {m m':SM}{t:Int}{k:Str}{e:Int}(h:SOK m)(hp:NT m t k m' e):SOK m'∧m'.room=m.room:=by
 rcases hp with⟨_,rfl,_⟩|⟨_,_,rfl,_⟩|⟨h1,_,h2⟩
 ·exact⟨h,rfl⟩
 ·exact⟨h,rfl⟩
 ·exact⟨Em h h2 (yq h1),yK h2⟩
theorem Da {m m':SM}{t:Int}{w:Str×Str×Bool}(h:SOK m)(hp:WrR t w m m'):SOK m'∧m'.room=m.room:=by
 obtain⟨e,⟨_,h1⟩|⟨_,h1⟩⟩:=hp
 ·exact D8 h h1
 ·exact El h h1
theorem D2 {m m':SM}{t:Int}{l:List (Str×Str×Bool)}(h:SOK m)(hp:xe t l m m'):SOK m'∧m'.room=m.room:=by
 induction hp with
 |nil=>exact⟨h,rfl⟩
 |snoc _ hw ih=>exact⟨(Da (ih h).1 hw).1,(Da (ih h).1 hw).2.trans (ih h).2⟩
theorem H8 {m m':MM}{c:Cmd}{t code:Int}(h:MOK m)(hp:B9 m c t m' code):MOK m':=by
 rcases hp with⟨_,rfl,_⟩|⟨_,_,rfl,_⟩|⟨_,_,_,st,⟨_,h1⟩|⟨_,rfl⟩,rfl⟩
 ·exact h
 ·exact h
 ·exact⟨(D2 h.st h1).1,h.room,(D2 h.st h1).2.trans h.same⟩
 ·exact⟨h.st,h.room,h.same⟩
section
variable {O:bj}
theorem K1:X.fns.get 18=some Try.f18:=by kernel_rfl
theorem Lw {b off:Nat}:af X 104 (.ptr (some (b,off))) 0=some (.pure (.ptr (some (b,off)))):=by
 simp only[af,uX,bh,List.getElem?_cons_zero,List.getElem?_cons_succ,ay,Nat.add_zero]
theorem Qr {b off:Nat}:af X 104 (.ptr (some (b,off))) 1=some (.pure (.ptr (some (b,off+1)))):=by
 simp only[af,uX,bh,List.getElem?_cons_zero,List.getElem?_cons_succ,ay,Nat.add_zero]
theorem Lm {v:AV}{b:Bool}:oR false v b=some (.pure v):=rfl
theorem CP {u w:Int}:bz X 104 [(0, .int .i64 u),(1, .int .i64 w)]=some (.pure (.agg [.int .i64 u, .int .i64 w])):=by
 simp only[bz,uX,pn,cS,ay,cL,dc,AV.cells,dB,fB]
 rfl
structure Mv (O:bj):Prop where
 code:Bp O
 sto:On O
 known:O 34=none
 does:O 18=none
theorem Sli.Ql {B:Nat→Prop}{s t:St}{v:AV}{es:Nat}{rows:List (List AV)}(h:Sli s v es rows)(hm:Am.Mod B s t)(hb:rows≠[]→∀b,blk v=some b→¬B b):Sli t v es rows:=by
 by_cases hn:rows=[]
 ·obtain⟨a,c,x,rfl,_⟩:=h.ex
  exact⟨a,c,x,rfl,fun h=>absurd hn h⟩
 ·exact h.mod hm (hb hn)
theorem MaR.next {s s':St}{p:AV}{m:MM}{y:kd}(h:MaR s p m y){G2:Nat→Prop}{st:SM}{y2:Lay}(hst:StR s' G2 y.sp st y2)(hm:Am.Mod y.G s s')(hG:∀b,G2 b→y.G b∨s.nx≤b):MaR s' p {m with st:=st} {y with G:=G2,y:=y2}:=by
 obtain⟨o1,o2,o3,o4⟩:=h.own
 have no:∀b,¬y.G b→b<s.nx→¬G2 b:=fun b h1 h2 h3=>(hG b h3).elim h1 (by omega)
 exact⟨h.ptr,(hm.old _ h.lt.1 o1).trans h.hmb,h.hcs,(hm.old _ h.lt.2 o2).trans h.hlb,h.hes,hst,h.acc.mod hm fun b hb=>(o4 b hb).1,⟨no _ o1 h.lt.1,no _ o2 h.lt.2,o3,fun b hb=>⟨no _ (o4 b hb).1 (h.acc.lt hb),(o4 b hb).2⟩⟩,Nat.lt_of_lt_of_le h.lt.1 hm.nx,Nat.lt_of_lt_of_le h.lt.2 hm.nx⟩
theorem MaR.Kn {s:St}{p:AV}{m:MM}{y:kd}(h:MaR s p m y){es':List (AV×AV)}{l':List (Int×Int×Int)}(hes:dM (fun e a=>e.1= .int .i64 a.1∧e.2= .agg [.int .i64 a.2.1, .int .i64 a.2.2]) es' l'):MaR {s with h:=s.h.put y.lb (.map es')} p {m with last:=l'} {y with es:=es'}:=by
 obtain⟨o1,o2,o3,o4⟩:=h.own
 have hm:Am.Mod (fun b=>b=y.lb) s {s with h:=s.h.put y.lb (.map es')}:=(Mod.refl _ s).put _ (.inr rfl) h.lt.2
 exact⟨h.ptr,(aT o3).trans h.hmb,h.hcs,bm,hes,h.st.mod hm (fun b hb e=>o2 (e▸hb)),h.acc.mod hm fun b hb=>(o4 b hb).2.2,h.own,h.lt⟩
def kd.B (y:kd)(b:Nat):Prop:=y.G b∨b=y.lb
theorem FJ (ho:Mv O){s:St}{p:AV}{m:MM}{y:kd}(h:MaR s p m y)(hk:MOK m)(htd:Tidy s){c:Cmd}{z:CL}(hc:jI s c z)(hcb:c.writes≠[]→∀b,blk z.w=some b→¬y.G b){t:Int}:
  Ca X O (.fn 18) [p, .agg (bY c z), .int .i64 t] s fun r=>∃s' m' y' code,r= .ret (.int .i64 code) s'∧MaR s' p m' y'∧B9 m c t m' code∧Am.Mod y.B s s'∧y'.mb=y.mb∧y'.lb=y.lb∧y'.dv=y.dv∧∀b,y'.G b→y.G b∨s.nx≤b:=by
 have hp:=h.ptr
 subst hp
 have hown:=h.own
 have hlt:=h.lt
 obtain⟨c0,c1,c2,c3,c4⟩:=h.cell
 refine bb ho.does K1 rfl ?_
 unfold aD aD aD aD
 (repeat(first|refine uS ?_ |refine aa rfl ?_));refine ad (by simp(disch:=omega) only[uB,uT,cX (cs:=bY c z) hc.qI];exact rfl) ?_;(repeat(first|refine uS ?_ |refine aa rfl ?_))
 refine eE fun s1 hn1 hm1 h1=>?_
 have h':=h.no hm1
 have htd1:=hm1.tidy htd
 have hc':=hc.no hm1
 obtain⟨cc,hcc,_⟩:=ej (cs:=[.int .i64 (uk m c.client).1, .int .i64 (uk m c.client).2]) (zs:=[.int .i64 0, .int .i64 0]) rfl
 have hlk:=h'.look c.client false
 rw[Lm] at hlk
 change eN X 57 (.map (some y.lb)) (.int .i64 c.client) false s1=some (.pure (.agg [.int .i64 (uk m c.client).1, .int .i64 (uk m c.client).2])) at hlk
 refine aU [(0,none),(1,none),(2,none),(3,none),(4,none),(5,none),(6,none),(7,none),(8,some [false,false,false,false,false,false,false,false])] (by kernel_rfl) (by kernel_rfl) (by simp(disch:=omega) only[uB,uT,Nat.reduceEqDiff,↓reduceIte,uD,mask,aC,aB,bN,zu,gT,Nat.zero_add,ah tu rfl qa h'.hmb c4,h1.ld (i:=1) rfl aN rfl ay,hlk,bQ pn rfl,AV.cells,tI (htd1 _ (Nat.le_refl _)),wU hcc];exact rfl) ?_
 refine Eu ?_
 refine cJ ?_
 refine dy hcc fun s2 hn2 hm2 h2=>?_
 refine fP (fun L s'=>Am.Mod No s2 s'∧L=[(0, .ptr (some (y.mb,0))),(2, .int .i64 t),(4, .ptr (some (s.nx,0))),(7, .ptr (some (s1.nx,0))),(33, .bool (mU m c))]) ?_ ?_
 ·have h3':=h'.no hm2
  have h1':=h1.no hm2
  cases d1:decide (0<c.client) with
  |false=>
   have e:mU m c=false:=by unfold mU;rw[d1];rfl
   (repeat(first|refine uS ?_ |refine aa rfl ?_));refine ad (by simp(disch:=omega) only[uB,uT,gT,lA,Lw,Nat.zero_add,h1'.ld (i:=1) rfl aN rfl ay,h1'.ld (i:=2) rfl aN rfl ay,h2.ld (i:=0) rfl aN rfl ay,d1,aP];exact rfl) ?_;(repeat(first|refine uS ?_ |refine aa rfl ?_))
   exact cG [(0, .ptr (some (y.mb,0))),(2, .int .i64 t),(4, .ptr (some (s.nx,0))),(7, .ptr (some (s1.nx,0))),(33, .bool (mU m c))] ⟨Mod.refl _ _,rfl⟩ (by rw[e];rfl)
  |true=>
   cases d2:decide (c.seq≤(uk m c.client).1) with
   |false=>
    have e:mU m c=false:=by unfold mU;rw[d1,d2];rfl
    (repeat(first|refine uS ?_ |refine aa rfl ?_));refine ad (by simp(disch:=omega) only[uB,uT,gT,lA,Lw,Nat.zero_add,h1'.ld (i:=1) rfl aN rfl ay,h1'.ld (i:=2) rfl aN rfl ay,h2.ld (i:=0) rfl aN rfl ay,d1,d2,aP];exact rfl) ?_;(repeat(first|refine uS ?_ |refine aa rfl ?_))
    exact cG [(0, .ptr (some (y.mb,0))),(2, .int .i64 t),(4, .ptr (some (s.nx,0))),(7, .ptr (some (s1.nx,0))),(33, .bool (mU m c))] ⟨Mod.refl _ _,rfl⟩ (by rw[e];rfl)
   |true=>
    have e:mU m c=(lkC m.last c.client).isSome:=by unfold mU;rw[d1,d2];rfl
    repeat(first|refine uS ?_ |refine aa rfl ?_ |refine ad (by simp(disch:=omega) only[uB,uT,gT,lA,Lw,Nat.zero_add,h1'.ld (i:=1) rfl aN rfl ay,h1'.ld (i:=2) rfl aN rfl ay,h2.ld (i:=0) rfl aN rfl ay,d1,d2,aP];exact rfl) ?_)
    refine aj (Cl ho.known h3' c.client) ?_ ?_
    ·rintro r s3 ⟨s3',er,hm3⟩
     cases er
     refine uL ?_
     refine uH ?_
     exact cG [(0, .ptr (some (y.mb,0))),(2, .int .i64 t),(4, .ptr (some (s.nx,0))),(7, .ptr (some (s1.nx,0))),(33, .bool (mU m c))] ⟨hm3,rfl⟩ (by rw[e];simp[aI,az])
    ·rintro r s' ⟨_,er,_⟩
     cases er
 ·rintro L s3 ⟨hm3,rfl⟩
  have hm03:=(hm1.trans hm2 (fun _ _ h=>h)).trans hm3 (fun _ _ h=>h)
  have h3:=h.no hm03
  have k1:=(h1.no hm2).no hm3
  have k2:=h2.no hm3
  have hc3:=hc.no hm03
  refine uH ?_
  refine ae rfl rfl (fun ht=>?_) (fun ht=>?_)
  ·repeat(first|refine uS ?_ |refine aa rfl ?_ |refine ad (by simp(disch:=omega) only[uB,uT,lA,Lw,Nat.zero_add,k1.ld (i:=2) rfl aN rfl ay,k2.ld (i:=0) rfl aN rfl ay];exact rfl) ?_)
   refine uJ [0,2,4,7,38] ?_
   refine ae rfl rfl (fun ht2=>?_) (fun ht2=>?_)
   ·repeat(first|refine uS ?_ |refine aa rfl ?_ |refine ad (by simp(disch:=omega) only[uB,uT,Qr,Nat.zero_add,k2.ld (i:=1) rfl aN rfl ay];exact rfl) ?_)
    refine ai rfl ?_
    exact⟨s3,m,y,_,rfl,h3, .inl ⟨ht,rfl,(if_pos (by simpa using ht2)).symm⟩,hm03.mono (fun _ _ h=>h.elim),rfl,rfl,rfl,fun b hb=> .inl hb⟩
   ·refine uG ?_
    refine ai rfl ?_
    exact⟨s3,m,y,_,rfl,h3, .inl ⟨ht,rfl,(if_neg (by simpa using ht2)).symm⟩,hm03.mono (fun _ _ h=>h.elim),rfl,rfl,rfl,fun b hb=> .inl hb⟩
  ·repeat(first|refine uS ?_ |refine aa rfl ?_ |refine ad (by simp(disch:=omega) only[uB,uT,jD,Nat.zero_add,k1.ld (i:=0) rfl aN rfl ay];exact rfl) ?_)
   refine uJ [0,2,4,43] ?_
   refine ae rfl rfl (fun ht2=>?_) (fun ht2=>?_)
   ·refine uG ?_
    refine ai rfl ?_
    exact⟨s3,m,y,_,rfl,h3, .inr (.inl ⟨ht,by simpa using ht2,rfl,rfl⟩),hm03.mono (fun _ _ h=>h.elim),rfl,rfl,rfl,fun b hb=> .inl hb⟩
   ·repeat(first|refine uS ?_ |refine aa rfl ?_ |refine ad (by simp(disch:=omega) only[uB,uT,k1.all bZ rfl cn];exact rfl) ?_)
    refine aj (Gc ho.code h3 hk.st hk.room hk.same hc3 (t:=t)) ?_ ?_
    ·rintro r s4 ⟨s4',er,hm4⟩
     cases er
     have hm04:=hm03.trans hm4 (fun _ _ h=>h)
     have h4:=h.no hm04
     have k4:=k1.no hm4
     have hc4:=hc.no hm04
     have htd4:=hm04.tidy htd
     generalize hcode:vO m c t=code at*
     refine uL ?_
     refine dR ?_
     refine cJ ?_
     obtain⟨a,cc5,x5,ew,_⟩:=hc.w.ex
     rw[List.length_map] at ew
     have hwl:=hc.wl
     refine fP (fun L s'=>L=[(0, .ptr (some (y.mb,0))),(4, .ptr (some (s.nx,0))),(8, .int .i64 code)]∧Am.Mod y.G s4 s'∧∃st G2 y2,StR s' G2 y.sp st y2∧((code=0∧xe t c.writes m.st st)∨(code≠0∧st=m.st))∧∀b,G2 b→y.G b∨s4.nx≤b) ?_ ?_
     ·refine uG ?_
      refine uJ [0,2,4,8,49] ?_
      refine ae rfl rfl (fun ht3=>?_) (fun ht3=>?_)
      ·have hw:=hc4.w
       rw[ew] at hw hcb
       have gw:aO X 35 (.ptr (some (s.nx,6))) s4=some (.old (.slc a c.writes.length cc5 x5)):=by
        rw[←ew];exact k4.ld (i:=6) rfl ct rfl fW
       have hws:(code=0∧xe t c.writes m.st m.st)∨True:= .inr trivial
       have hc0:code=0:=by simpa using ht3
       repeat(first|refine uS ?_ |refine aa rfl ?_ |refine ad (by simp(disch:=omega) only[uB,uT,gS,Nat.zero_add,gw];exact rfl) ?_)
       generalize hqs:c.writes=qs at*
       let I:Nat→Sl→St→Prop:=fun i L s'=>(∃st G2 y2,StR s' G2 y.sp st y2∧SOK st∧xe t (qs.take i) m.st st∧∀b,G2 b→y.G b∨s4.nx≤b)∧Am.Mod y.G s4 s'∧i≤qs.length∧L=[(0, .ptr (some (y.mb,0))),(2, .int .i64 t),(4, .ptr (some (s.nx,0))),(8, .int .i64 code),(51, .slc a qs.length cc5 x5),(52, .int .i64 (qs.length:Int)),(53, .int .i64 (i:Int))]
       refine WL.less (M:=[(0, .ptr (some (y.mb,0))),(2, .int .i64 t),(4, .ptr (some (s.nx,0))),(8, .int .i64 code),(51, .slc a qs.length cc5 x5),(52, .int .i64 (qs.length:Int)),(53, .int .i64 ((0:Nat):Int))]) ?_ rfl
       refine aV I (fun i=>qs.length- i) ?_ qs.length 0 _ s4 (by simp) ⟨⟨m.st,y.G,y.y,h4.st,hk.st, .nil,fun b hb=> .inl hb⟩,Mod.refl _ _,Nat.zero_le _,rfl⟩
       rintro i L s5 ⟨⟨st,G2,y2,hst,hok,hwr,hG2⟩,hm5,hi,rfl⟩
       refine uG ?_
       refine uJ [0,2,4,8,51,52,53,54] ?_
       refine ae rfl rfl (fun hc2=>?_) (fun hc2=>?_)
       ·simp at hc2
        obtain⟨q,hq⟩:∃q,qs[i]? =some q:=⟨_,List.getElem?_eq_getElem (by omega)⟩
        have hne:qs≠[]:=by intro e;rw[e] at hc2;simp at hc2
        obtain⟨b5,off5,cq,xq,t5,n5,e5,_,g2,g3⟩:=(Sli.Ql hw hm5 fun _ b hb=>hcb hne b hb).at (i:=i) (r:=wrt q) (by simp[hq])
        rw[List.length_map] at e5
        cases e5
        obtain⟨cc2,hcc2,_⟩:=ej (cs:=wrt q) (zs:=[.str ⟨0,0⟩, .str ⟨0,0⟩, .bool false]) rfl
        have htk:qs.take (i+1)=qs.take i++[q]:=by rw[List.take_add_one,hq];rfl
        (repeat(first|refine uS ?_ |refine aa rfl ?_));refine ad (by simp(disch:=omega) only[uB,uT,aQ ct bT,cE m4 rfl bT g2 g3,Int.toNat_natCast,bQ mK rfl,AV.cells,qb hcc2];exact rfl) ?_;(repeat(first|refine uS ?_ |refine aa rfl ?_))
        refine dy hcc2 fun s6 hn6 hm6 g6=>?_
        have hm46:Am.Mod y.G s4 s6:=hm5.trans hm6 (fun _ _ h=>h.elim)
        have hst6:=hst.mod hm6 (fun _ _ h=>h)
        have htd6:=hm46.tidy htd4
        have hmb6:=(hm46.old _ h4.lt.1 hown.1).trans h4.hmb
        have hspp:=hst6.ptr
        have c2':=c2
        rw[hspp] at c2' hst6
        repeat(first|refine uS ?_ |refine aa rfl ?_ |refine ad (by simp(disch:=omega) only[uB,uT,j7,Nat.zero_add,g6.ld (i:=2) rfl mg rfl eC];exact rfl) ?_)
        refine uJ [0,2,4,8,10,51,52,53,58] ?_
        refine ae rfl rfl (fun hd=>?_) (fun hd=>?_)
        ·refine aU [(0,none),(1,none),(2,none),(3,none),(4,none),(5,none),(6,none),(7,some [false,true,false,false,true,true,true])] (by kernel_rfl) (by kernel_rfl) (by simp(disch:=omega) only[uB,uT,Nat.reduceEqDiff,↓reduceIte,uD,mask,aC,aB,bN,eJ,iD,Nat.zero_add,ah du rfl dw hmb6 c2',g6.ld (i:=0) rfl aE rfl aF];exact rfl) ?_
         refine cg (G8 ho.sto hst6 hok htd6) ?_ ?_
         ·rintro r s7 ⟨s7',G3,st3,y3,e3,er,hst7,hm7,hG3,hdel⟩
          cases er
          have hok3:=(D8 hok hdel).1
          have hm47:Am.Mod y.G s4 s7:=hm46.trans hm7 (fun b hb hg=>(hG2 b hg).elim id (fun h=>by omega))
          have hn46:=hm46.nx
          refine⟨_,(by simp(disch:=omega) only[uB,uT,Nat.reduceEqDiff,↓reduceIte,uE,aC,aB,bN,eJ,iD,Nat.zero_add];exact rfl),?_⟩
          refine uG ?_
          exact aH (i+1) [(0, .ptr (some (y.mb,0))),(2, .int .i64 t),(4, .ptr (some (s.nx,0))),(8, .int .i64 code),(51, .slc (some (b5,off5,3)) qs.length cc5 x5),(52, .int .i64 (qs.length:Int)),(53, .int .i64 ((i+1:Nat):Int))] ⟨⟨st3,G3,y3,by rw[hspp];exact hst7,hok3,by rw[htk];exact hwr.snoc ⟨e3, .inl ⟨hd,hdel⟩⟩,fun b hb=>(hG3 b hb).elim (fun h=>hG2 b h) (fun h=> .inr (by omega))⟩,hm47,by omega,rfl⟩ (by show qs.length- (i+1)<qs.length- i;omega) (by simp[aI,az])
         ·rintro r s' ⟨_,_,_,_,_,er,_⟩
          cases er
        ·refine aU [(0,none),(1,none),(2,none),(3,none),(4,none),(5,none),(6,none),(7,none),(8,none),(9,some [false,true,false,true,false,false,true,true,true])] (by kernel_rfl) (by kernel_rfl) (by simp(disch:=omega) only[uB,uT,Nat.reduceEqDiff,↓reduceIte,uD,mask,aC,aB,bN,eJ,iD,kj,Nat.zero_add,ah du rfl dw hmb6 c2',g6.ld (i:=0) rfl aE rfl aF,g6.ld (i:=1) rfl aE rfl aF];exact rfl) ?_
         refine cg (Hg ho.sto hst6 hok htd6) ?_ ?_
         ·rintro r s7 ⟨s7',G3,st3,y3,e3,er,hst7,hm7,hG3,hput⟩
          cases er
          have hok3:=(El hok hput).1
          have hm47:Am.Mod y.G s4 s7:=hm46.trans hm7 (fun b hb hg=>(hG2 b hg).elim id (fun h=>by omega))
          have hn46:=hm46.nx
          refine⟨_,(by simp(disch:=omega) only[uB,uT,Nat.reduceEqDiff,↓reduceIte,uE,aC,aB,bN,eJ,iD,kj,Nat.zero_add];exact rfl),?_⟩
          refine uG ?_
          exact aH (i+1) [(0, .ptr (some (y.mb,0))),(2, .int .i64 t),(4, .ptr (some (s.nx,0))),(8, .int .i64 code),(51, .slc (some (b5,off5,3)) qs.length cc5 x5),(52, .int .i64 (qs.length:Int)),(53, .int .i64 ((i+1:Nat):Int))] ⟨⟨st3,G3,y3,by rw[hspp];exact hst7,hok3,by rw[htk];exact hwr.snoc ⟨e3, .inr ⟨hd,hput⟩⟩,fun b hb=>(hG3 b hb).elim (fun h=>hG2 b h) (fun h=> .inr (by omega))⟩,hm47,by omega,rfl⟩ (by show qs.length- (i+1)<qs.length- i;omega) (by simp[aI,az])
         ·rintro r s' ⟨_,_,_,_,_,er,_⟩
          cases er
       ·simp at hc2
        have:i=qs.length:=by omega
        subst this
        refine uG ?_
        rw[List.take_length] at hwr
        exact cG [(0, .ptr (some (y.mb,0))),(4, .ptr (some (s.nx,0))),(8, .int .i64 code)] ⟨rfl,hm5,st,G2,y2,hst, .inl ⟨hc0,hwr⟩,hG2⟩ (by simp[aI,az])
      ·refine uG ?_
       exact cG [(0, .ptr (some (y.mb,0))),(4, .ptr (some (s.nx,0))),(8, .int .i64 code)] ⟨rfl,Mod.refl _ _,m.st,y.G,y.y,h4.st, .inr ⟨by simpa using ht3,rfl⟩,fun b hb=> .inl hb⟩ (by simp[aI,az])
     ·rintro L s5 ⟨rfl,hm5,st,G2,y2,hst,hres,hG2⟩
      have h5:=h4.next hst hm5 hG2
      have hno:¬y.G s.nx:=fun hb=>by have:=h.st.lt _ hb;omega
      have k5:=k4.mod hm5 hno
      have hm05:Am.Mod y.B s s5:=(hm04.mono (C:=y.B) (fun _ _ h=>h.elim)).trans hm5 (fun b _ hb=> .inl hb)
      have hn04:=hm04.nx
      have hG:∀b,G2 b→y.G b∨s.nx≤b:=fun b hb=>(hG2 b hb).imp id (fun h=>by omega)
      have htn:mU m c=false:=ht
      have hkn:c.kind≠0:=by simpa using ht2
      repeat(first|refine uS ?_ |refine aa rfl ?_ |refine ad (by simp(disch:=omega) only[uB,uT,gT,Nat.zero_add,k5.ld (i:=1) rfl aN rfl ay];exact rfl) ?_)
      refine uJ [0,4,8,80] ?_
      refine ae rfl rfl (fun ht4=>?_) (fun ht4=>?_)
      ·have hcl:0<c.client:=by simpa using ht4
       obtain⟨es',hes',hall⟩:=Bt (k:=c.client) (v:=(c.seq,code)) h5.hes
       have hset:fy X 57 (.map (some y.lb)) (.int .i64 c.client) (.agg [.int .i64 c.seq, .int .i64 code]) s5=some (.val (.tup []) {s5 with h:=s5.h.put y.lb (.map es')}):=by
        have hl:=h5.hlb
        simp only[fy,tu,aN,hl,plainKey,hes',Cn]
       refine aU [(0,none),(1,none),(2,none),(3,none),(4,none),(5,none),(6,none),(7,none),(8,none),(9,none),(10,some [false,false,false,false,false,false,false,false,false,false])] (by kernel_rfl) (by kernel_rfl) (by simp(disch:=omega) only[uB,uT,Nat.reduceEqDiff,↓reduceIte,uD,mask,aC,aB,bN,zu,gT,lA,Nat.zero_add,ah tu rfl qa h5.hmb c4,k5.ld (i:=1) rfl aN rfl ay,k5.ld (i:=2) rfl aN rfl ay,CP,hset];exact rfl) ?_
       refine uG ?_
       refine ai rfl ?_
       refine⟨_,{m with st:=st,last:=q7 m.last c.client (c.seq,code)},_,code,rfl,h5.Kn hall, .inr (.inr ⟨htn,hkn,hcode.symm,st,hres,by rw[if_pos hcl]⟩),?_,rfl,rfl,rfl,hG⟩
       exact hm05.put _ (.inr (.inr rfl)) h5.lt.2
      ·have hcl:¬0<c.client:=by simpa using ht4
       refine uG ?_
       refine ai rfl ?_
       exact⟨s5,_,_,code,rfl,h5, .inr (.inr ⟨htn,hkn,hcode.symm,st,hres,by rw[if_neg hcl]⟩),hm05,rfl,rfl,rfl,hG⟩
    ·rintro r s' ⟨_,er,_⟩
     cases er
end
end Go.Proofs.Ytofohkdkpbigiaa
end
section
namespace Go.Proofs.Ytofohkdkpbigiaa
open Go.Am
set_option maxRecDepth 10000
set_option maxHeartbeats 1000000
set_option linter.unusedSimpArgs false
theorem sC {X:Ctx}{fn:Func}{a1:Nat}{t1:TypeId}{L:Sl}{s:St}{Q:CR→Prop}{p1 v1:AV}(hr:fn.results.toList=[.cell a1 t1])(k1:lk L a1=some p1)(l1:aO X t1 p1 s=some (.old v1))(hQ:Q (.ret v1 s)):Fin (tz X fn Q) .ret L [] s:=
 ai (l:=[v1]) (by rw[hr];simp only[iN,ft k1 l1]) hQ
theorem Ep {c:Tr AV}{n i:Nat}{l:List AV}{v:AV}(h:ldL c 0 n=some l)(hi:i<n):ldL (c.put i v) 0 n=some (l.set i v):=by
 obtain⟨h1,h2⟩:=aR.mp h
 refine aR.mpr ⟨by simpa using h1,fun j u hj=>?_⟩
 rw[Tr.cV]
 rw[List.getElem?_set] at hj
 by_cases e:i=j
 ·rw[if_pos e] at hj
  rw[if_pos (by omega)]
  split at hj
  ·exact hj
  ·cases hj
 ·rw[if_neg e] at hj
  rw[if_neg (by omega)]
  exact h2 j u hj
theorem MaR.JU {s:St}{p:AV}{m:MM}{y:kd}(h:MaR s p m y){t:Int}:MaR {s with h:=s.h.put y.mb (.cells (y.cs.put 1 (.int .i64 t)) 5)} p {m with time:=t} {y with cs:=y.cs.put 1 (.int .i64 t)}:=by
 obtain⟨o1,o2,o3,o4⟩:=h.own
 have hm:Am.Mod (fun b=>b=y.mb) s {s with h:=s.h.put y.mb (.cells (y.cs.put 1 (.int .i64 t)) 5)}:=(Mod.refl _ s).put _ (.inr rfl) h.lt.1
 exact⟨h.ptr,bm,Ep h.hcs (by omega),(aT (Ne.symm o3)).trans h.hlb,h.hes,h.st.mod hm (fun b hb e=>o1 (e▸hb)),h.acc.mod hm fun b hb=>(o4 b hb).2.1,h.own,h.lt⟩
theorem MaR.gH {s s':St}{p:AV}{m:MM}{y:kd}{dv:AV}{ds:List Dn}(h:MaR s p m y)(hm:Am.Mod (fun b=>blk y.dv=some b) s s')(ha:Acc s' dv 4 (ds.map dn))(hb:blk dv=some s.nx):MaR {s' with h:=s'.h.put y.mb (.cells (y.cs.put 3 dv) 5)} p {m with gH:=ds} {y with cs:=y.cs.put 3 dv,dv:=dv}:=by
 obtain⟨o1,o2,o3,o4⟩:=h.own
 have hm2:Am.Mod (fun b=>b=y.mb) s' {s' with h:=s'.h.put y.mb (.cells (y.cs.put 3 dv) 5)}:=(Mod.refl _ s').put _ (.inr rfl) (Nat.lt_of_lt_of_le h.lt.1 hm.nx)
 have hlt:=h.lt
 refine⟨h.ptr,bm,Ep h.hcs (by omega),(aT (Ne.symm o3)).trans ((hm.old _ h.lt.2 fun e=>(o4 _ e).2.2 rfl).trans h.hlb),h.hes,(h.st.mod hm fun b hb e=>(o4 _ e).1 hb).mod hm2 (fun b hb e=>o1 (e▸hb)),ha.mod hm2 fun b h2=>?_,⟨o1,o2,o3,fun b h2=>?_⟩,Nat.lt_of_lt_of_le h.lt.1 hm.nx,Nat.lt_of_lt_of_le h.lt.2 hm.nx⟩
 ·rw[hb] at h2;cases h2;exact fun e=>by have e:s.nx=y.mb:=e;omega
 ·have h2:blk dv=some b:=h2
  rw[hb] at h2;cases h2
  exact⟨fun hg=>by have:=h.st.lt _ hg;omega,by show s.nx≠y.mb;omega,by show s.nx≠y.lb;omega⟩
def DoR (m:MM)(t:Int)(c:Cmd)(e:Int)(m':MM)(d:Dn):Prop:=
 ((t≤m.time∨1099511627776≤t)∧m'=m∧d=⟨c.client,c.seq,t,1⟩)∨
 (m.time<t∧t<1099511627776∧∃m1 code,((e=0∧B9 m c t m1 code)∨(e≠0∧m1=m∧code=e))∧d=⟨c.client,c.seq,t,code⟩∧m'={m1 with time:=t,gH:=m1.gH++[d]})
theorem CM {m m':MM}{c:Cmd}{t code:Int}(h:B9 m c t m' code):m'.time=m.time∧m'.gH=m.gH∧m'.room=m.room:=by
 rcases h with⟨_,rfl,_⟩|⟨_,_,rfl,_⟩|⟨_,_,_,_,_,rfl⟩<;>exact⟨rfl,rfl,rfl⟩
theorem Nb {m m':MM}{t e:Int}{c:Cmd}{d:Dn}(h:MOK m)(hp:DoR m t c e m' d):MOK m':=by
 rcases hp with⟨_,rfl,_⟩|⟨_,_,m1,code,⟨_,h1⟩|⟨_,rfl,_⟩,_,rfl⟩
 ·exact h
 ·have:=H8 h h1;exact⟨this.st,this.room,this.same⟩
 ·exact⟨h.st,h.room,h.same⟩
section
variable {O:bj}
theorem PU:X.fns.get 7=some Try.f7:=by kernel_rfl
theorem Ft {b off:Nat}:af X 28 (.ptr (some (b,off))) 3=some (.pure (.ptr (some (b,off+3)))):=by
 simp only[af,oB,bh,List.getElem?_cons_zero,List.getElem?_cons_succ,ay,Nat.add_zero]
theorem Jd {b off:Nat}:af X 31 (.ptr (some (b,off))) 0=some (.pure (.ptr (some (b,off)))):=by
 simp only[af,vH,bh,List.getElem?_cons_zero,List.getElem?_cons_succ,ay,Nat.add_zero]
theorem Qf {b off:Nat}:af X 31 (.ptr (some (b,off))) 1=some (.pure (.ptr (some (b,off+1)))):=by
 simp only[af,vH,bh,List.getElem?_cons_zero,List.getElem?_cons_succ,aF,Nat.add_zero]
theorem Dd {a b c d:Int}:bz X 28 [(0, .int .i64 a),(1, .int .i64 b),(2, .int .i64 c),(3, .int .i64 d)]=some (.pure (.agg [.int .i64 a, .int .i64 b, .int .i64 c, .int .i64 d])):=by
 simp only[bz,oB,qe,cS,ay,cL,dc,AV.cells,dB,fB]
 rfl
theorem w7 {b m x:Nat}{c c':Tr AV}{u1 u2 u3 u4:Int}{t0:Tr AB}{g:Tr (Tr AV)}{sh:List Nat}(hs:stL [.int .i64 u1, .int .i64 u2, .int .i64 u3, .int .i64 u4] 0 c=some c'):cK X 28 (.ptr (some (b,0))) (.agg [.int .i64 u1, .int .i64 u2, .int .i64 u3, .int .i64 u4]) {h:=t0.put b (.cells c m),nx:=x,gl:=g,sh:=sh}=some (.val (.tup []) {h:=(t0.put b (.cells c m)).put b (.cells c' m),nx:=x,gl:=g,sh:=sh}):=
 dC jc rfl rfl hs
theorem th {b k x:Nat}{c c':Tr AV}{cm:Cmd}{z:CL}{t0:Tr AB}{g:Tr (Tr AV)}{sh:List Nat}(ho:aX (bY cm z)=true)(hs:stL (bY cm z) 0 c=some c'):cK X 40 (.ptr (some (b,0))) (.agg (bY cm z)) {h:=t0.put b (.cells c k),nx:=x,gl:=g,sh:=sh}=some (.val (.tup []) {h:=(t0.put b (.cells c k)).put b (.cells c' k),nx:=x,gl:=g,sh:=sh}):=
 dC cn rfl ho hs
theorem ET {t:Int}{d:Str}{s:St}:dY (.agg [.int .i64 t, .str d]) s=some (.val (.ptr (some (s.nx,0))) {s with h:=s.h.put s.nx (.cells (Tr.of [.int .i64 t, .str d]) 2),nx:=s.nx+1}):=cX rfl
theorem A7 {s:St}{q:Dn}:bB X 58 1 [(0, .agg [.int .i64 q.client, .int .i64 q.seq, .int .i64 q.time, .int .i64 q.code])] s=some (.val (.slc (some (s.nx,0,4)) 1 1 true) {s with h:=s.h.put s.nx (.cells (Tr.of [.int .i64 q.client, .int .i64 q.seq, .int .i64 q.time, .int .i64 q.code]) 4),nx:=s.nx+1}):=
 jF (cs:=dn q) tF jc qe rfl (by decide) (by decide) rfl rfl
structure DoO (O:bj):Prop where
 does:Mv O
 dow:O 7=none
def OB (O:bj)(R:Cmd→Int→Prop)(d:Str)(s:St):Prop:=∀s1,Am.Mod No s s1→Ca X O (.fn 17) [.str d] s1 fun r=>∃c z s' e,r= .ret (.tup [.agg (bY c z), .int .i64 e]) s'∧jI s' c z∧Am.Mod No s1 s'∧(∀b,z.has b→s1.nx≤b)∧R c e
def kd.C (y:kd)(b:Nat):Prop:=y.G b∨b=y.lb∨b=y.mb∨blk y.dv=some b
theorem Ml (ho:DoO O){s:St}{p:AV}{m:MM}{y:kd}(h:MaR s p m y)(hk:MOK m)(htd:Tidy s)(hl:m.gH.length≤1000){t:Int}{d:Str}{R:Cmd→Int→Prop}(hg:OB O R d s):
  Ca X O (.fn 7) [p, .agg [.int .i64 t, .str d]] s fun r=>∃s' m' y' c e q,r= .ret (.agg (dn q)) s'∧MaR s' p m' y'∧R c e∧DoR m t c e m' q∧Am.Mod y.C s s'∧y'.mb=y.mb∧y'.lb=y.lb∧(∀b,y'.C b→y.C b∨s.nx≤b):=by
 have hp:=h.ptr
 subst hp
 have hown:=h.own
 have hlt:=h.lt
 refine bb ho.dow PU rfl ?_
 unfold aD aD aD
 (repeat(first|refine uS ?_ |refine aa rfl ?_));refine ad (by simp(disch:=omega) only[uB,uT,ET,bQ qe rfl,AV.cells];exact rfl) ?_;(repeat(first|refine uS ?_ |refine aa rfl ?_))
 refine zj fun s1 hn1 hm1 h1 h2=>?_
 have h':=h.no hm1
 repeat(first|refine uS ?_ |refine aa rfl ?_ |refine ad (by simp(disch:=omega) only[uB,uT,qn mc];exact rfl) ?_)
 refine uJ [0,3,4,9] ?_
 refine ae rfl rfl (fun hc=>?_) (fun hc=>?_)
 ·cases hc
 ·repeat(first|refine uS ?_ |refine aa rfl ?_ |refine ad (by simp(disch:=omega) only[uB,uT,Qf,Nat.zero_add,h1.ld (i:=1) rfl aE rfl aF];exact rfl) ?_)
  refine aj (hg s1 hm1) ?_ ?_
  ·rintro r s2 ⟨c,z,s2',e,er,hc2,hm2,hzb,hR⟩
   cases er
   have h3:=h'.no hm2
   have k1:=h1.no hm2
   have k2:=h2.no hm2
   obtain⟨cc,hcc,_⟩:=ej (cs:=bY c z) (zs:=[.int .i64 0, .int .i64 0, .int .i64 0, .int .i64 0, .slc none 0 0 true, .slc none 0 0 true, .slc none 0 0 true, .int .i64 0, .int .i64 0, .int .i64 0, .str ⟨0,0⟩, .int .i64 0, .slc none 0 0 true]) rfl
   refine bD (by simp(disch:=omega) only[uB,uT,bQ ly rfl,AV.cells,th hc2.qI hcc];exact rfl) ?_
   refine uH ?_
   refine dy hcc fun s3 hn3 hm3 k3=>?_
   obtain⟨cd,hcd,_⟩:=ej (cs:=[.int .i64 c.client, .int .i64 c.seq, .int .i64 t, .int .i64 e]) (zs:=[.int .i64 0, .int .i64 0, .int .i64 0, .int .i64 0]) rfl
   have k13:=k1.no hm3
   (repeat(first|refine uS ?_ |refine aa rfl ?_));refine ad (by simp(disch:=omega) only[uB,uT,gT,lA,Jd,Nat.zero_add,k3.ld (i:=1) rfl aN rfl ay,k3.ld (i:=2) rfl aN rfl ay,k13.ld (i:=0) rfl aN rfl ay,Dd,bQ qe rfl,AV.cells,w7 hcd];exact rfl) ?_;(repeat(first|refine uS ?_ |refine aa rfl ?_))
   refine dy hcd fun s4 hn4 hm4 k4=>?_
   have hm04:Am.Mod No s s4:=((hm1.trans hm2 (fun _ _ h=>h)).trans hm3 (fun _ _ h=>h)).trans hm4 (fun _ _ h=>h)
   have h4:=h.no hm04
   have k14:=k13.no hm4
   have k24:=(k2.no hm3).no hm4
   have k34:=k3.no hm4
   have htd4:=hm04.tidy htd
   have c1:=h4.cell.2.1
   have n1:=hm1.nx
   have n2:=hm2.nx
   have n4:=hm04.nx
   refine La (fun L s'=>s4=s'∧L=[(0, .ptr (some (y.mb,0))),(3, .ptr (some (s.nx,0))),(4, .ptr (some (s.nx+1,0))),(5, .ptr (some (s2.nx,0))),(6, .int .i64 e),(7, .ptr (some (s3.nx,0))),(36, .bool (decide (t≤m.time∨1099511627776≤t)))]) ?_ ?_
   ·cases d1:decide (t≤m.time) with
    |true=>
     have e1:decide (t≤m.time∨1099511627776≤t)=true:=by simp at d1;simp[d1]
     refine aU [(0,none),(1,none),(2,none),(3,none),(4,none),(5,none),(6,none),(7,none),(8,none),(9,none),(10,none),(11,none)] (by kernel_rfl) (by kernel_rfl) (by simp(disch:=omega) only[uB,uT,Nat.reduceEqDiff,↓reduceIte,uD,mask,aC,aB,bN,Jd,zY,Nat.zero_add,k14.ld (i:=0) rfl aN rfl ay,ah aN rfl ay h4.hmb c1,d1];exact rfl) ?_
     refine uH ?_
     exact cG [(0, .ptr (some (y.mb,0))),(3, .ptr (some (s.nx,0))),(4, .ptr (some (s.nx+1,0))),(5, .ptr (some (s2.nx,0))),(6, .int .i64 e),(7, .ptr (some (s3.nx,0))),(36, .bool (decide (t≤m.time∨1099511627776≤t)))] ⟨rfl,rfl⟩ (by rw[e1];rfl)
    |false=>
     have e1:decide (t≤m.time∨1099511627776≤t)=decide (1099511627776≤t):=by simp at d1;simp[show ¬t≤m.time by omega]
     refine aU [(0,none),(1,none),(2,none),(3,none),(4,none),(5,none),(6,none),(7,none),(8,none),(9,none),(10,none),(11,none)] (by kernel_rfl) (by kernel_rfl) (by simp(disch:=omega) only[uB,uT,Nat.reduceEqDiff,↓reduceIte,uD,mask,aC,aB,bN,Jd,zY,Nat.zero_add,k14.ld (i:=0) rfl aN rfl ay,ah aN rfl ay h4.hmb c1,d1];exact rfl) ?_
     refine uH ?_
     exact cG [(0, .ptr (some (y.mb,0))),(3, .ptr (some (s.nx,0))),(4, .ptr (some (s.nx+1,0))),(5, .ptr (some (s2.nx,0))),(6, .int .i64 e),(7, .ptr (some (s3.nx,0))),(36, .bool (decide (t≤m.time∨1099511627776≤t)))] ⟨rfl,rfl⟩ (by rw[e1];rfl)
   ·rintro L s' ⟨rfl,rfl⟩
    refine uH ?_
    refine ae rfl rfl (fun ht=>?_) (fun ht=>?_)
    ·have ht':t≤m.time∨1099511627776≤t:=by simpa using ht
     obtain⟨s5,e5,k5,hm5,n5⟩:=k4.stm (X:=X) (t:=3) (i:=3) (w:= .int .i64 1) rfl ay rfl rfl
     have k25:=k24.mod hm5 (by omega)
     obtain⟨s6,e6,k6,hm6,n6⟩:=k25.Aq (X:=X) (t:=28) (m:=dn ⟨c.client,c.seq,t,1⟩) rfl jc rfl
     have hm06:Am.Mod No s s6:=(hm04.trans hm5 (fun b hb e=>by subst e;omega)).trans hm6 (fun b hb e=>by subst e;omega)
     simp only[dn] at e6
     (repeat(first|refine uS ?_ |refine aa rfl ?_));refine ad (by simp(disch:=omega) only[uB,uT,Ft,Nat.zero_add,e5];exact rfl) ?_;(repeat(first|refine uS ?_ |refine aa rfl ?_))
     (repeat(first|refine uS ?_ |refine aa rfl ?_));refine ad (by simp(disch:=omega) only[uB,uT,k5.all oB rfl jc,List.set_cons_zero,List.set_cons_succ,e6];exact rfl) ?_;(repeat(first|refine uS ?_ |refine aa rfl ?_))
     refine sC rfl rfl (k6.all oB rfl jc) ?_
     exact⟨s6,m,y,c,e,_,rfl,h.no hm06,hR, .inl ⟨ht',rfl,rfl⟩,hm06.mono (fun _ _ h=>h.elim),rfl,rfl,fun b hb=> .inl hb⟩
    ·have ht1:m.time<t:=by simp at ht;omega
     have ht2:t<1099511627776:=by simp at ht;omega
     have hzG:c.writes≠[]→∀b,blk z.w=some b→¬y.G b:=fun _ b hb hg=>by have:=hzb b (.inr (.inr hb));have:=h.st.lt b hg;omega
     refine oC ?_
     refine cJ ?_
     refine fP (fun L s'=>L=[(0, .ptr (some (y.mb,0))),(3, .ptr (some (s.nx,0))),(4, .ptr (some (s.nx+1,0))),(7, .ptr (some (s3.nx,0)))]∧∃m1 y1 code,MaR s' (.ptr (some (y.mb,0))) m1 y1∧((e=0∧B9 m c t m1 code)∨(e≠0∧m1=m∧code=e))∧Am.Mod y.B s s'∧y1.mb=y.mb∧y1.lb=y.lb∧y1.dv=y.dv∧(∀b,y1.G b→y.G b∨s4.nx≤b)∧Bx s' s3.nx (dn ⟨c.client,c.seq,t,code⟩)∧Bx s' s.nx [.int .i64 t, .str d]∧Bx s' (s.nx+1) (dn ⟨0,0,0,0⟩)) ?_ ?_
     ·refine uG ?_
      refine uJ [0,3,4,5,7,40] ?_
      refine ae rfl rfl (fun hz=>?_) (fun hz=>?_)
      ·repeat(first|refine uS ?_ |refine aa rfl ?_ |refine ad (by simp(disch:=omega) only[uB,uT,Jd,Nat.zero_add,k14.ld (i:=0) rfl aN rfl ay,k34.all bZ rfl cn];exact rfl) ?_)
       refine aj (FJ ho.does h4 hk htd4 (hc2.no (hm3.trans hm4 (fun _ _ h=>h))) hzG (t:=t)) ?_ ?_
       ·rintro r s5 ⟨s5',m1,y1,code,er,h5,hdo,hm5,f1,f2,f3,f4⟩
        cases er
        have noB:∀b,s.nx≤b→¬y.B b:=fun b hb hB=>hB.elim (fun hg=>by have:=h.st.lt _ hg;omega) (fun e=>by omega)
        have k45:=k4.mod hm5 (noB _ (by omega))
        obtain⟨s6,e6,k6,hm6,n6⟩:=k45.stm (X:=X) (t:=3) (i:=3) (w:= .int .i64 code) rfl ay rfl rfl
        refine bD (by simp(disch:=omega) only[uB,uT,Ft,Nat.zero_add,e6];exact rfl) ?_
        refine uG ?_
        have n5:=hm5.nx
        have h6:MaR s6 (.ptr (some (y.mb,0))) m1 y1:=by
         have hno:∀b,b≠s3.nx→b<s5.nx→s6.h.get b=s5.h.get b:=fun b hb hlt=>hm6.old b hlt hb
         refine⟨h5.ptr,(hno _ (by rw[f1];omega) h5.lt.1).trans h5.hmb,h5.hcs,(hno _ (by rw[f2];omega) h5.lt.2).trans h5.hlb,h5.hes,h5.st.mod hm6 (fun b hb e=>?_),h5.acc.mod hm6 (fun b hb e=>?_),h5.own,Nat.lt_of_lt_of_le h5.lt.1 hm6.nx,Nat.lt_of_lt_of_le h5.lt.2 hm6.nx⟩
         ·subst e
          rcases f4 _ hb with hb|hb
          ·have:=h.st.lt _ hb;omega
          ·omega
         ·subst e
          rw[f3] at hb
          have:=h.acc.lt hb
          omega
        exact cG [(0, .ptr (some (y.mb,0))),(3, .ptr (some (s.nx,0))),(4, .ptr (some (s.nx+1,0))),(7, .ptr (some (s3.nx,0)))] ⟨rfl,m1,y1,code,h6, .inl ⟨by simpa using hz,hdo⟩,((hm04.mono (C:=y.B) (fun _ _ h=>h.elim)).trans hm5 (fun _ _ h=>h)).trans hm6 (fun b hb e=>by omega),f1,f2,f3,f4,k6,(k14.mod hm5 (noB _ (Nat.le_refl _))).mod hm6 (by omega),(k24.mod hm5 (noB _ (Nat.le_succ _))).mod hm6 (by omega)⟩ (by simp[aI,az])
       ·rintro r s' ⟨_,_,_,_,er,_⟩
        cases er
      ·refine uG ?_
       exact cG [(0, .ptr (some (y.mb,0))),(3, .ptr (some (s.nx,0))),(4, .ptr (some (s.nx+1,0))),(7, .ptr (some (s3.nx,0)))] ⟨rfl,m,y,e,h4, .inr ⟨by simpa using hz,rfl,rfl⟩,hm04.mono (C:=y.B) (fun _ _ h=>h.elim),rfl,rfl,rfl,fun b hb=> .inl hb,k4,k14,k24⟩ (by simp[aI,az])
     ·rintro L s5 ⟨rfl,m1,y1,code,h5,hcase,hm5,f1,f2,f3,f4,k5,k15,k25⟩
      have hm1r:m1.gH=m.gH:=by
       rcases hcase with⟨_,hd⟩|⟨_,rfl,_⟩
       ·exact(CM hd).2.1
       ·rfl
      have c15:=h5.cell.2.1
      rw[←f1]
      have f1lt:=h5.lt.1
      have n5:=hm5.nx
      have st5:=yw (X:=X) (t:=3) (w:= .int .i64 t) h5.hmb c15 ay rfl rfl
      (repeat(first|refine uS ?_ |refine aa rfl ?_));refine ad (by simp(disch:=omega) only[uB,uT,Jd,zY,bN,Nat.zero_add,k15.ld (i:=0) rfl aN rfl ay,st5];exact rfl) ?_;(repeat(first|refine uS ?_ |refine aa rfl ?_))
      have h6:=h5.JU (t:=t)
      have hmX:Am.Mod (fun b=>b=y1.mb) s5 {h:=s5.h.put y1.mb (.cells (y1.cs.put 1 (.int .i64 t)) 5),nx:=s5.nx,gl:=s5.gl,sh:=s5.sh}:=(Mod.refl _ s5).put _ (.inr rfl) f1lt
      have k6:=k5.mod hmX (by rw[f1];omega)
      have k16:=k15.mod hmX (by rw[f1];omega)
      have k26:=k25.mod hmX (by rw[f1];omega)
      generalize hs6:({h:=s5.h.put y1.mb (.cells (y1.cs.put 1 (.int .i64 t)) 5),nx:=s5.nx,gl:=s5.gl,sh:=s5.sh}:St)=s6 at*
      have n6:s6.nx=s5.nx:=by rw[←hs6]
      have htd6:Tidy s6:=hmX.tidy (hm5.tidy htd)
      obtain⟨q,hq⟩:∃q:Dn,q=⟨c.client,c.seq,t,code⟩:=⟨_,rfl⟩
      rw[←hq] at k6
      let s7:St:={s6 with h:=s6.h.put s6.nx (.cells (Tr.of (dn q)) 4),nx:=s6.nx+1}
      have hm67:Am.Mod No s6 s7:=(Mod.refl _ s6).new _
      have h7:=h6.no hm67
      have k7:=k6.no hm67
      have k27:=k26.no hm67
      have hacc7:=h7.acc
      have c37:=h7.cell.2.2.2.1
      have hdv:y1.dv=y.dv:=f3
      change Acc s7 y1.dv 4 (m1.gH.map dn) at hacc7
      change (y1.cs.put 1 (.int .i64 t)).get 3=some y1.dv at c37
      have hub:∀b,blk y1.dv=some b→b<s.nx:=fun b hb=>by rw[hdv] at hb;exact h.acc.lt hb
      have hlen7:(m1.gH.map dn).length+[dn q].length≤1000000:=by simp[hm1r];omega
      obtain⟨a,cq,xq,edv,_⟩:=hacc7.sli.ex
      have hsrc:aZ s7 4 (.slc (some (s6.nx,0,4)) 1 1 true)=some ([dn q].length,[dn q].flatten):=gB (rows:=[dn q]) rfl (fun r hr=>by rcases List.mem_singleton.mp hr with rfl;rfl) bm rfl
      obtain⟨v8,s8,e8,acc8,hm78,hv8⟩:=gG tF DP hacc7 hsrc (fun r hr=>by rcases List.mem_singleton.mp hr with rfl;rfl) (by simp) rfl hlen7
      have hm78':Am.Mod (fun b=>blk y1.dv=some b) s7 s8:=hm78
      have k8:=k7.mod hm78' (fun hb=>by have:=hub _ hb;omega)
      have k28:=k27.mod hm78' (fun hb=>by have:=hub _ hb;omega)
      rw[show m1.gH.map dn++[dn q]=(m1.gH++[q]).map dn by simp] at acc8
      have h9:=h7.gH hm78' acc8 hv8
      have hmb8:s8.h.get y1.mb=some (.cells (y1.cs.put 1 (.int .i64 t)) 5):=(hm78'.old _ (Nat.lt_succ_of_lt (by omega)) fun hb=>(h5.own.2.2.2 _ hb).2.1 rfl).trans h7.hmb
      rw[edv] at c37 e8
      obtain⟨a8,l8,x8,ev8',_⟩:=acc8.sli.ex
      have st8:=yw (X:=X) (t:=58) (w:=v8) hmb8 c37 sx (by rw[ev8'];rfl) (by rw[ev8'];rfl)
      rw[ev8'] at e8 st8
      simp only[s7,dn] at e8
      have lmb6:=h6.hmb
      change s6.h.get y1.mb=some (.cells (y1.cs.put 1 (.int .i64 t)) 5) at lmb6
      refine aU [(0,none),(1,none),(2,none),(3,none),(4,none),(5,none),(6,none),(7,some [false,true,false,true,true,true,true]),(8,none),(9,none),(10,some [false,true,false,false,false,false,false])] (by kernel_rfl) (by kernel_rfl) (by simp(disch:=omega) only[uB,uT,Nat.reduceEqDiff,↓reduceIte,uD,mask,aC,aB,He,bN,Nat.zero_add,ah tF rfl sx lmb6 c37,k6.all oB rfl jc,A7 (q:=q),tI (htd6 _ (Nat.le_refl _)),fM tF (.inl rfl),e8,k8.all oB rfl jc,dn,st8];exact rfl) ?_
      have hm89:Am.Mod (fun b=>b=y1.mb) s8 {h:=s8.h.put y1.mb (.cells ((y1.cs.put 1 (.int .i64 t)).put 3 v8) 5),nx:=s8.nx,gl:=s8.gl,sh:=s8.sh}:=(Mod.refl _ s8).put _ (.inr rfl) (by have:=hm78'.nx;have:s7.nx=s6.nx+1:=rfl;omega)
      rw[ev8'] at hm89 h9
      have k9:=k8.mod hm89 (by omega)
      have k29:=k28.mod hm89 (by omega)
      generalize hs9:({h:=s8.h.put y1.mb (.cells ((y1.cs.put 1 (.int .i64 t)).put 3 (.slc a8 ((m1.gH++[q]).map dn).length l8 x8)) 5),nx:=s8.nx,gl:=s8.gl,sh:=s8.sh}:St)=s9 at*
      obtain⟨s10,e10,k10,hm10,n10⟩:=k29.Aq (X:=X) (t:=28) (m:=dn q) rfl jc rfl
      have kk:=k9.all oB rfl jc
      refine uH ?_
      (repeat(first|refine uS ?_ |refine aa rfl ?_));refine ad (by simp(disch:=omega) only[uB,uT,kk,e10];exact rfl) ?_;(repeat(first|refine uS ?_ |refine aa rfl ?_))
      refine sC rfl rfl (k10.all oB rfl jc) ?_
      have n7:s7.nx=s6.nx+1:=rfl
      have k5lt:=k5.lt
      have n8:=hm78'.nx
      have hm0:Am.Mod y.C s s10:=by
       have g1:Am.Mod y.C s s5:=hm5.mono fun b _ hb=>hb.elim .inl fun e=> .inr (.inl e)
       have g2:=g1.trans hmX fun b _ e=>(.inr (.inr (.inl (e.trans f1))):y.C b)
       have g3:=g2.trans hm67 fun b _ e=>e.elim
       have g4:=g3.trans hm78' fun b _ e=>(.inr (.inr (.inr (hdv▸e))):y.C b)
       have g5:=g4.trans hm89 fun b _ e=>(.inr (.inr (.inl (e.trans f1))):y.C b)
       exact g5.trans hm10 fun b hb e=>by omega
      have h10:MaR s10 (.ptr (some (y1.mb,0))) {m1 with time:=t,gH:=m1.gH++[q]} {y1 with cs:=(y1.cs.put 1 (.int .i64 t)).put 3 (.slc a8 ((m1.gH++[q]).map dn).length l8 x8),dv:= .slc a8 ((m1.gH++[q]).map dn).length l8 x8}:=by
       have hno:∀b,b≠s.nx+1→b<s9.nx→s10.h.get b=s9.h.get b:=fun b hb hlt=>hm10.old b hlt hb
       obtain⟨g1,g2,g3,g4,g5,g6,g7,g8,g9⟩:=h9
       rw[ev8'] at hv8
       refine⟨f1▸rfl,(hno _ (by show y1.mb≠_;omega) g9.1).trans g2,g3,(hno _ (by show y1.lb≠_;omega) g9.2).trans g4,g5,g6.mod hm10 (fun b hb e=>?_),g7.mod hm10 (fun b hb e=>?_),g8,Nat.lt_of_lt_of_le g9.1 hm10.nx,Nat.lt_of_lt_of_le g9.2 hm10.nx⟩
       ·subst e
        rcases f4 _ hb with hb|hb
        ·have:=h.st.lt _ hb;omega
        ·omega
       ·subst e
        have hb:blk (.slc a8 ((m1.gH++[q]).map dn).length l8 x8)=some (s.nx+1):=hb
        rw[hv8] at hb
        simp only[Option.some.injEq] at hb
        omega
      refine⟨s10,_,_,c,e,q,rfl,h10,hR, .inr ⟨ht1,ht2,m1,code,hcase,hq,rfl⟩,hm0,rfl,f2,?_⟩
      rintro b (hb|hb|hb|hb)
      ·exact(f4 b hb).elim (fun h=> .inl (.inl h)) (fun h=> .inr (by omega))
      ·exact .inl (.inr (.inl (hb.trans f2)))
      ·exact .inl (.inr (.inr (.inl (hb.trans f1))))
      ·have hb:blk (.slc a8 ((m1.gH++[q]).map dn).length l8 x8)=some b:=hb
       rw[←ev8',hv8] at hb
       simp only[Option.some.injEq] at hb
       exact .inr (by omega)
  ·rintro r s' ⟨_,_,_,_,er,_⟩
   cases er
end
end Go.Proofs.Ytofohkdkpbigiaa
end
section
namespace Go.Am
def Str.ok (s:Str):Prop:=s.val<256^s.len
def bu:Str:=⟨0,0⟩
theorem si:bu.ok:=by show 0<256^0;decide
theorem qz (n:Nat):0<256^n:=Nat.pow_pos (by decide)
theorem kD {a b:Str}(ha:a.ok)(hb:b.ok):(a.cat b).ok:=by
 unfold Str.ok Str.cat at*
 simp only
 rw[Nat.pow_add]
 calc a.val*256^b.len+b.val<a.val*256^b.len+256^b.len:=by omega
  _=(a.val+1)*256^b.len:=by rw[Nat.add_mul,Nat.one_mul]
  _≤256^a.len*256^b.len:=Nat.mul_le_mul_right _ ha
theorem Ai (s:Str)(l h:Nat):(s.sub l h).ok:=Nat.mod_lt _ (qz _)
theorem jN (a b:Str):(a.cat b).len=a.len+b.len:=rfl
theorem uM (s:Str)(l h:Nat):(s.sub l h).len=h- l:=rfl
theorem Str.ext {a b:Str}(h1:a.len=b.len)(h2:a.val=b.val):a=b:=by
 obtain⟨l,v⟩:=a;obtain⟨m,u⟩:=b;cases h1;cases h2;rfl
theorem se (a:Str):a.cat bu=a:=Str.ext rfl (by simp[Str.cat,bu])
theorem K9 (a:Str):bu.cat a=a:=Str.ext (by simp[Str.cat,bu]) (by simp[Str.cat,bu])
theorem tm (a b c:Str):(a.cat b).cat c=a.cat (b.cat c):=by
 refine Str.ext (by simp[Str.cat,Nat.add_assoc]) ?_
 simp only[Str.cat]
 rw[Nat.pow_add,Nat.add_mul,Nat.mul_assoc];omega
theorem Mg {s:Str}(h:s.ok)(h0:s.len=0):s=bu:=by
 refine Str.ext h0 ?_
 unfold Str.ok at h
 rw[h0] at h
 simp at h;exact h
theorem sQ {a b:Str}(ha:a.ok)(hb:b.ok):(a.cat b).sub 0 a.len=a:=by
 refine Str.ext rfl ?_
 simp only[Str.sub,Str.cat,Nat.sub_zero,Nat.add_sub_cancel_left]
 rw[Nat.mul_comm,Nat.mul_add_div (qz _),Nat.div_eq_of_lt hb,Nat.add_zero]
 exact Nat.mod_eq_of_lt ha
theorem xf {a b:Str}(hb:b.ok):(a.cat b).sub a.len (a.cat b).len=b:=by
 refine Str.ext (by simp[Str.sub,Str.cat]) ?_
 simp only[Str.sub,Str.cat,Nat.sub_self,Nat.pow_zero,Nat.div_one,Nat.add_sub_cancel_left]
 rw[Nat.mul_comm,Nat.mul_add_mod]
 exact Nat.mod_eq_of_lt hb
theorem Kj {s:Str}(h:s.ok):s.sub 0 s.len=s:=by
 refine Str.ext rfl ?_
 simp only[Str.sub,Nat.sub_self,Nat.pow_zero,Nat.div_one,Nat.sub_zero]
 exact Nat.mod_eq_of_lt h
theorem JY {s:Str}(n:Nat):s.sub n n=bu:=Str.ext (by simp[Str.sub,bu]) (by simp[Str.sub,bu];omega)
def bA (b:Nat):AV:= .int .u8 (b:Int)
def sB (s:Str)(b:Nat):Str:=⟨s.len+1,s.val*256+b⟩
def ic (l:List Nat):Str:=l.foldl sB bu
def okB (l:List Nat):Prop:=∀b∈l,b<256
theorem tw:∀ (l:List Nat) (s:Str),l.foldl sB s=s.cat (ic l)
 |[],s=>(se s).symm
 |b::l,s=>by
  show l.foldl sB (sB s b)=s.cat (l.foldl sB (sB bu b))
  rw[tw l,tw l,←tm]
  congr 1
  exact Str.ext (by simp[sB,Str.cat,bu]) (by simp[sB,Str.cat,bu])
theorem pF (a b:List Nat):ic (a++b)=(ic a).cat (ic b):=by
 unfold ic;rw[List.foldl_append,tw b];rfl
theorem j9:∀ (l:List Nat),(ic l).len=l.length:=by
 have:∀ (l:List Nat) (s:Str),(l.foldl sB s).len=s.len+l.length:=by
  intro l
  induction l with
  |nil=>intro s;rfl
  |cons b l ih=>intro s;simp only[List.foldl_cons,ih,sB,List.length_cons];omega
 intro l;rw[ic,this];simp[bu]
theorem zO:∀ {l:List Nat},okB l→(ic l).ok:=by
 have:∀ (l:List Nat) (s:Str),okB l→s.ok→(l.foldl sB s).ok:=by
  intro l
  induction l with
  |nil=>intro s _ h;exact h
  |cons b l ih=>
   intro s hl hs
   refine ih _ (fun x hx=>hl x (List.mem_cons_of_mem _ hx)) ?_
   have:=hl b List.mem_cons_self
   unfold Str.ok sB at*
   simp only[Nat.pow_succ];omega
 intro l hl;exact this l _ hl si
theorem tO:∀ (l:List Nat) (s:Str),okB l→bytesOf.go (l.map bA) s=some (l.foldl sB s)
 |[],s,_=>rfl
 |b::l,s,h=>by
  have hb:=h b List.mem_cons_self
  show(if 0≤(b:Int)∧(b:Int)<256 then bytesOf.go (l.map bA) ⟨s.len+1,s.val*256+(b:Int).toNat⟩ else none)=_
  rw[if_pos (by omega),Int.toNat_natCast]
  exact tO l _ fun x hx=>h x (List.mem_cons_of_mem _ hx)
theorem yk {l:List Nat}(h:okB l):bytesOf (l.map bA)=some (ic l):=tO l _ h
def bl (s:Str):List Nat:=(List.range s.len).map s.at
theorem GF (s:Str):okB (bl s):=fun b hb=>by
 obtain⟨i,_,rfl⟩:=List.mem_map.mp hb
 exact Nat.mod_lt _ (by decide)
theorem zX (s:Str):(bl s).length=s.len:=by simp[bl]
theorem vA (s:Str):fX s s.len=(bl s).map bA:=by
 have:∀n,n≤s.len→fX s n=((List.range' (s.len- n) n).map s.at).map bA:=by
  intro n
  induction n with
  |zero=>intro _;rfl
  |succ n ih=>
   intro h
   simp only[fX]
   rw[ih (by omega),List.range'_succ]
   simp only[List.map_cons]
   rw[show s.len- (n+1)+1=s.len- n by omega]
   rfl
 rw[this s.len (Nat.le_refl _),Nat.sub_self,←List.range_eq_range',bl]
theorem FI {s:Str}(h:s.ok):∀n,n≤s.len→ic ((List.range n).map s.at)=s.sub 0 n:=by
 intro n
 induction n with
 |zero=>intro _;rw[JY];rfl
 |succ n ih=>
  intro hn
  rw[List.range_succ,List.map_append,pF,ih (by omega)]
  refine Str.ext (by simp[Str.cat,Str.sub,j9]) ?_
  simp only[Str.cat,Str.sub,ic,List.map_cons,List.map_nil,List.foldl_cons,List.foldl_nil,sB,bu,Nat.zero_mul,Nat.zero_add,Nat.sub_zero,Nat.pow_one,Str.at]
  rw[show s.len- 1- n=s.len- (n+1) by omega]
  have e:s.val/256^ (s.len- n)=s.val/256^ (s.len- (n+1))/256:=by
   rw[Nat.div_div_eq_div_mul]
   congr 1
   rw[←Nat.pow_succ];congr 1;omega
  have hb:∀k,k≤s.len→s.val/256^ (s.len- k)<256^k:=fun k hk=>by
   rw[Nat.div_lt_iff_lt_mul (qz _),←Nat.pow_add,show k+(s.len- k)=s.len by omega]
   exact h
  rw[Nat.mod_eq_of_lt (hb n (by omega)),Nat.mod_eq_of_lt (hb (n+1) hn),e]
  omega
theorem yR {s:Str}(h:s.ok):ic (bl s)=s:=by
 rw[bl,FI h _ (Nat.le_refl _),Kj h]
def wd (n:Nat):Str:=⟨8,n⟩
def u64 (n:Int):Nat:=(n % 18446744073709551616).toNat
theorem qU (n:Int):u64 n<18446744073709551616:=by unfold u64;omega
theorem wm {n:Nat}(h:n<18446744073709551616):(wd n).ok:=by
 show n<256^8
 rw[show(256:Nat)^8=18446744073709551616 by decide];exact h
def aY (n:Int):Str:=wd (u64 n)
theorem cR (n:Int):(aY n).ok:=wm (qU n)
def be8 (n:Nat):List Nat:=(List.range 8).map fun i=>n/256^ (7- i) % 256
theorem MH (n:Nat):okB (be8 n):=fun b hb=>by
 obtain⟨i,_,rfl⟩:=List.mem_map.mp hb
 exact Nat.mod_lt _ (by decide)
theorem MS (n:Nat):be8 n=bl (wd n):=rfl
theorem BL {n:Nat}(h:n<18446744073709551616):ic (be8 n)=wd n:=by rw[MS,yR (wm h)]
theorem IK (n:Int):IntKind.u64.wrap n=(u64 n:Int):=by
 simp only[IntKind.wrap,u64];simp[IntKind.bits,IntKind.signed];omega
def i64 (n:Nat):Int:=IntKind.i64.wrap (n:Int)
theorem yh (n:Nat): -9223372036854775808≤i64 n∧i64 n≤9223372036854775807:=by
 unfold i64;rw[IntKind.wrap_i64];omega
theorem Ez {n:Int}(h: -9223372036854775808≤n)(h':n≤9223372036854775807):i64 (u64 n)=n:=by
 unfold i64 u64;rw[IntKind.wrap_i64];omega
theorem JI {n:Nat}(h:n<18446744073709551616):u64 (i64 n)=n:=by
 unfold i64 u64;rw[IntKind.wrap_i64];omega
end Go.Am
end
