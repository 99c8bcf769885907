/-
  A part of the texts.
-/
import Derived.ChangeArms
import Derived.Test.YtofohkdkpbigiaaQba
section
namespace Go.Proofs.Ytofohkdkpbigiaa
open Go.Am
set_option maxRecDepth 10000
set_option maxHeartbeats 1000000
set_option linter.unusedSimpArgs false
def isP (w:Str×Str×Bool):Bool:= !w.2.2
def iY (ws:List (Str×Str×Bool)):Nat:=(ws.filter isP).length
def vis (ws:List (Str×Str×Bool))(k:Str):List Ver:=match ws.find? (fun w=>isP w&&w.1.beq k) with
 |some w=>[⟨4,w.2.1,false⟩]
 |none=>[]
theorem lF {l:List (Str×Str×Bool)}{w:Str×Str×Bool}:iY (l++[w])=iY l+if isP w=true then 1 else 0:=by
 unfold iY
 rw[List.filter_append,List.length_append,List.filter_cons]
 split<;>rfl
theorem wY {l:List (Str×Str×Bool)}{k:Str}(h:∀a∈l,a.1≠k):l.find? (fun w=>isP w&&w.1.beq k)=none:=by
 rw[List.find?_eq_none]
 intro a ha
 rw[Str.beq_false.mpr (h a ha),Bool.and_false]
 exact Bool.false_ne_true
theorem Hd {l:List (Str×Str×Bool)}{w:Str×Str×Bool}{k:Str}(h:∀a∈l,a.1≠w.1):vis (l++[w]) k=if isP w=true∧k.beq w.1=true then[⟨4,w.2.1,false⟩] else vis l k:=by
 unfold vis
 rw[List.find?_append]
 by_cases hk:k.beq w.1=true
 ·have:=Str.nM hk
  subst this
  rw[wY h,Option.none_or]
  simp only[List.find?_cons,List.find?_nil,Str.fT,Bool.and_true,and_true]
  cases isP w<;>rfl
 ·have hk2:w.1.beq k=false:=Str.beq_false.mpr fun e=>hk (by rw[e];exact Str.fT _)
  rw[if_neg (fun h=>hk h.2)]
  simp only[List.find?_cons,List.find?_nil,hk2,Bool.and_false,Option.or_none]
structure Emp (m:SM):Prop where
 all:m.all=[]
 ps:m.ps=[]
 size:m.size=0
 last:m.last≤4
 ok:SOK m
theorem FN {ws:List (Str×Str×Bool)}{m m':SM}(h:xe 4 ws m m')(h0:Emp m)(hd:ws.Pairwise fun a b=>a.1≠b.1)(hr:(iY ws:Int)≤m.room):
  m'.room=m.room∧m'.size=(iY ws:Int)∧m'.last≤4∧SOK m'∧m'.ps.flatten.length=iY ws∧∀k,lkA m'.all k=vis ws k:=by
 induction h with
 |nil=>exact⟨rfl,h0.size,h0.last,h0.ok,by rw[h0.ps];rfl,fun k=>by rw[h0.all];rfl⟩
 | @snoc l w m m1 m2 h1 h2 ih=>
  rw[List.pairwise_append] at hd
  obtain⟨d1,_,d2⟩:=hd
  have d3:∀a∈l,a.1≠w.1:=fun a ha=>d2 a ha w (List.mem_singleton.mpr rfl)
  rw[lF] at hr
  obtain⟨e1,e2,e3,e4,e5,e6⟩:=ih h0 d1 (by omega)
  have hm:uu m1 4=true:=by simp[uu,e3]
  have hg:lkA m1.all w.1=[]:=by rw[e6];unfold vis;rw[wY d3]
  obtain⟨k1,k2⟩:=Da e4 h2
  have hv:=fun k=>Hd (k:=k) d3
  obtain⟨e,⟨hw,hx⟩|⟨hw,hx⟩⟩:=h2
  ·have hp:isP w=false:=by unfold isP;rw[hw];rfl
   rcases hx with⟨hx,_⟩|⟨_,_,rfl,_⟩|⟨_,hx,_⟩
   ·rw[hm] at hx;cases hx
   ·refine⟨e1,by rw[lF,hp];simpa using e2,e3,e4,by rw[lF,hp];simpa using e5,fun k=>by rw[hv,hp,e6];simp⟩
   ·rw[hg] at hx;cases hx
  ·have hp:isP w=true:=by unfold isP;rw[hw];rfl
   rw[if_pos hp] at hr
   rcases hx with⟨hx,_⟩|⟨_,hx⟩
   ·rw[hm] at hx;cases hx
   ·rcases hx with⟨hx,_⟩|⟨_,hx,_⟩|⟨_,_,_,g1,g2,g3,g4,g5⟩
    ·exact absurd hg hx
    ·omega
    ·rcases g5 with⟨g5,_⟩|⟨_,_,A,B,g6,g7⟩
     ·exact absurd hg g5
     ·refine⟨g1.trans e1,by rw[lF,if_pos hp,g2,e2];rfl,by rw[g3];exact Int.le_refl _,k1,?_,fun k=>?_⟩
      ·rw[lF,if_pos hp,←e5,g6,g7]
       simp only[List.length_append,List.length_cons];omega
      ·rw[g4,AX,hv,hg,e6]
       simp only[hp,true_and,List.nil_append]
theorem Nh {ws:List (Str×Str×Bool)}(hd:ws.Pairwise fun a b=>a.1≠b.1){w:Str×Str×Bool}(hw:w∈ws):vis ws w.1=if isP w=true then[⟨4,w.2.1,false⟩] else[]:=by
 induction ws with
 |nil=>cases hw
 |cons a ws ih=>
  rw[List.pairwise_cons] at hd
  unfold vis
  rcases List.mem_cons.mp hw with rfl|h
  ·rw[List.find?_cons,Str.fT,Bool.and_true]
   cases hp:isP w with
   |true=>rfl
   |false=>
    rw[wY fun a ha e=>hd.1 a ha e.symm];rfl
  ·rw[List.find?_cons,Str.beq_false.mpr (hd.1 w h),Bool.and_false]
   exact ih hd.2 h
theorem A1 {all:Al}{t n:Int}:∀ {qs out:List (Str×Str)},(∀q∈qs,(nE (lkA all q.1) t).2=true)→((out.length+qs.length:Nat):Int)≤n→(jW all t n qs out).length=out.length+qs.length
 |[],out,_,_=>rfl
 |q::qs,out,h,hn=>by
  simp only[List.length_cons] at hn
  unfold jW
  rw[if_neg (by omega)]
  cases hg:nE (lkA all q.1) t with
  |mk v b=>
   have:=h q List.mem_cons_self
   rw[hg] at this
   simp only at this
   subst this
   simp only
   rw[A1 (fun q hq=>h q (List.mem_cons_of_mem _ hq)) (by simp only[List.length_append,List.length_singleton];omega)]
   simp only[List.length_append,List.length_cons,List.length_nil];omega
theorem MT (k:Str):k.lt bu=false:=by
 cases h:k.lt bu with
 |false=>rfl
 |true=>rw[Str.lt_iff] at h;simp[bu,Str.pre] at h
theorem KV (q:Str×Str):inK bu bu q=true:=by unfold inK;rw[MT];rfl
theorem M1 {ws:List (Str×Str×Bool)}(h:pf ws=true):ws.Pairwise fun a b=>a.1≠b.1:=by
 have hs:∀i,i+1<ws.length→(ws.getD i dW).1.lt (ws.getD (i+1) dW).1=true:=fun i hi=>by
  have:=List.all_eq_true.mp h (i+1) (List.mem_range.mpr hi)
  unfold okW at this
  simp only[Bool.and_eq_true,Bool.or_eq_true,decide_eq_true_eq,Nat.add_sub_cancel] at this
  rcases this.2.2 with h|h
  ·omega
  ·exact h
 have hl:∀d i,i+d+1<ws.length→(ws.getD i dW).1.lt (ws.getD (i+d+1) dW).1=true:=by
  intro d
  induction d with
  |zero=>exact fun i hi=>hs i hi
  |succ d ih=>exact fun i hi=>Str.lt_trans (ih i (by omega)) (hs (i+d+1) hi)
 rw[List.pairwise_iff_getElem]
 intro i j hi hj hij e
 have:=hl (j- i- 1) i (by omega)
 rw[show i+(j- i- 1)+1=j by omega,List.getD_eq_getElem?_getD,List.getD_eq_getElem?_getD,List.getElem?_eq_getElem hi,List.getElem?_eq_getElem hj] at this
 simp only[Option.getD_some] at this
 rw[e,Str.lt_irrefl] at this
 cases this
def wC (ws:List (Str×Str×Bool))(dl:Int):Cmd:=⟨2,3,9,0,[],[],ws,dl,0,0,bu,0,[]⟩
theorem Fv {ws:List (Str×Str×Bool)}{n dl:Int}:og (qg n) (wC ws dl)=iY ws:=by
 unfold og iY
 congr 2
theorem EN {ws:List (Str×Str×Bool)}{room:Nat}{dl:Int}{m1:MM}{d:Dn}(hr:room≤255)(hm:lv (wC ws dl)=true)(hdl:dl=0∨dl=3)
  (h:DoR ⟨1+room,0,qg (1+room),[],[]⟩ 4 (wC ws dl) 0 m1 d):
  ((dl=3∧d.code=14∧m1.st=qg (1+room))∨(dl=0∧1+(room:Int)<iY ws∧d.code=4∧m1.st=qg (1+room))∨
   (dl=0∧(iY ws:Int)≤1+room∧d.code=0∧(jW m1.st.all 4 1000 (m1.st.ps.flatten.filter (inK bu bu)) []).length=iY ws∧∀w∈ws,nE (lkA m1.st.all w.1) 4=(w.2.1, !w.2.2))):=by
 have hw:pf ws=true∧ws.length≤200:=by
  unfold lv gE at hm
  simp only[Bool.and_eq_true,decide_eq_true_eq] at hm
  exact hm.2.2.2.2
 have hpw:=M1 hw.1
 have k0:SOK (qg (1+(room:Int))):=zP (by omega) (by omega)
 have he:Emp (qg (1+(room:Int))):=⟨rfl,rfl,rfl,show(0:Int)≤4 by decide,k0⟩
 have hcode:vO ⟨1+room,0,qg (1+room),[],[]⟩ (wC ws dl) 4=if dl=3 then 14 else if 1+(room:Int)<iY ws then 4 else 0:=by
  unfold vO
  rw[Fv]
  show(if(4:Int)≤0 then(1:Int) else if 0<dl∧dl<4 then 14 else if(4:Int)<0 then 15 else if false=true then 13 else if(1+(room:Int))- 0<(iY ws:Int) then 4 else 0)=_
  rw[if_neg (by decide)]
  rcases hdl with rfl|rfl
  ·rw[if_neg (show ¬((0:Int)<0∧(0:Int)<4) by omega),if_neg (show ¬(4:Int)<0 by decide),if_neg (show ¬(false=true) by decide),Int.sub_zero,if_neg (show ¬(0:Int)=3 by decide)]
  ·rw[if_pos (by omega),if_pos rfl]
 rcases h with⟨h|h,_⟩|⟨_,_,m2,code,⟨_,h1⟩|⟨h1,_⟩,rfl,rfl⟩
 ·exact absurd h (show ¬(4:Int)≤0 by decide)
 ·exact absurd h (by decide)
 ·rcases h1 with⟨h1,_⟩|⟨_,h1,_⟩|⟨_,_,h1,st,h2,rfl⟩
  ·cases h1
  ·cases h1
  ·rw[hcode] at h1
   subst h1
   rcases hdl with rfl|rfl
   ·rw[if_neg (by decide)] at h2 ⊢
    by_cases hp:1+(room:Int)<iY ws
    ·rw[if_pos hp] at h2 ⊢
     rcases h2 with⟨h2,_⟩|⟨_,rfl⟩
     ·exact absurd h2 (by decide)
     ·exact .inr (.inl ⟨rfl,hp,rfl,rfl⟩)
    ·rw[if_neg hp] at h2 ⊢
     rcases h2 with⟨_,h2⟩|⟨h2,_⟩
     ·have h2:xe 4 ws (qg (1+room)) st:=h2
      obtain⟨e1,e2,e3,e4,e5,e6⟩:=FN h2 he hpw (by show(iY ws:Int)≤1+room;omega)
      refine .inr (.inr ⟨rfl,by omega,rfl,?_,fun w hw2=>?_⟩)
      ·show(jW st.all 4 1000 (st.ps.flatten.filter (inK bu bu)) []).length=_
       have hf:st.ps.flatten.filter (inK bu bu)=st.ps.flatten:=List.filter_eq_self.mpr fun q _=>KV q
       have hpl:iY ws≤200:=Nat.le_trans (List.length_filter_le _ _) hw.2
       rw[hf,A1 (fun q hq=>?_) (by simp only[List.length_nil,e5];omega),e5]
       ·exact Nat.zero_add _
       ·have:=(e4.keys q.1).mp ⟨q,hq,rfl⟩
        rw[e6] at this ⊢
        unfold vis at this ⊢
        split
        ·rw[←List.nil_append [_],Bs]
        ·rename_i hn;rw[hn] at this;exact absurd rfl this
      ·show nE (lkA st.all w.1) 4=_
       rw[e6,Nh hpw hw2]
       cases hd:w.2.2 with
       |false=>
        rw[if_pos (by unfold isP;rw[hd];rfl),←List.nil_append [_],Bs];rfl
       |true=>
        rw[if_neg (by unfold isP;rw[hd];exact Bool.false_ne_true)]
        obtain⟨i,hi,rfl⟩:=List.getElem_of_mem hw2
        have:=List.all_eq_true.mp hw.1 i (List.mem_range.mpr hi)
        unfold okW at this
        rw[List.getD_eq_getElem?_getD,List.getElem?_eq_getElem hi,Option.getD_some,hd] at this
        simp only[Bool.and_eq_true,Bool.not_true,Bool.false_or] at this
        rw[Str.nM this.2.1];rfl
     ·exact absurd rfl h2
   ·rw[if_pos rfl] at h2 ⊢
    rcases h2 with⟨h2,_⟩|⟨_,rfl⟩
    ·exact absurd h2 (by decide)
    ·exact .inl ⟨rfl,rfl,rfl⟩
 ·exact absurd rfl h1
end Go.Proofs.Ytofohkdkpbigiaa
end
section
namespace Go.Proofs.Ytofohkdkpbigiaa
open Go.Am
set_option maxRecDepth 10000
set_option maxHeartbeats 1000000
set_option linter.unusedSimpArgs false
theorem Aw {n:Nat}(h:gm n≤59999):n=gm n:=by
 unfold gm at h ⊢
 split at h
 ·omega
 ·rename_i h1;rw[if_neg h1]
theorem Gu:∀ {ws:List (Str×Str×Bool)},(ws.map gW).sum≤60000→aM (ws.map dL).flatten≤24*ws.length+60000- 60000+(ws.map gW).sum∧ws.length≤(ws.map gW).sum
 |[],_=>⟨Nat.zero_le _,Nat.zero_le _⟩
 |w::ws,h=>by
  simp only[List.map_cons,List.sum_cons] at h
  obtain⟨h1,h2⟩:=Gu (ws:=ws) (by omega)
  have hw:aM (dL w)=24+w.1.len+w.2.1.len:=by
   simp only[dL,aA,bg,bL]
   show _+(8+0)=_
   omega
  have eg:gW w=1+gm w.1.len+gm w.2.1.len:=rfl
  have e1:w.1.len=gm w.1.len:=Aw (by omega)
  have e2:w.2.1.len=gm w.2.1.len:=Aw (by omega)
  simp only[List.map_cons,List.flatten_cons,aA,hw,List.length_cons,List.sum_cons]
  constructor<;>omega
theorem Na {ws:List (Str×Str×Bool)}{dl:Int}(h:gS4 (wC ws dl)≤60000):ws.length≤60000∧(ws.length≤200→aM (cI (wC ws dl))≤1000000):=by
 have h3:(ws.map gW).sum≤60000:=by
  have:gS4 (wC ws dl)=0+0+(ws.map gW).sum+0:=rfl
  omega
 obtain⟨h1,h2⟩:=Gu h3
 refine⟨by omega,fun hl=>?_⟩
 have e:aM (cI (wC ws dl))=48+(8+aM (ws.map dL).flatten)+48:=by
  unfold cI
  rw[aA,aA,aA]
  have a1:aM (bJ (wC ws dl))+aM (dg (wC ws dl))=48:=rfl
  have a2:aM (eZ (wC ws dl))=8+aM (ws.map dL).flatten:=by unfold eZ;rw[bL];rfl
  have a3:aM (jq (wC ws dl))=48:=rfl
  omega
 omega
section
variable {O:bj}
theorem CH (hn:O 5=none)(ho:O 16=none){s:St}{n:Int}(h0:1≤n)(h1:n≤4096):
  Ca X O (.fn 5) [.int .i64 n] s fun z=>∃p s' y,z= .ret (.tup [p, .int .i64 0]) s'∧MaR s' p ⟨n,0,qg n,[],[]⟩ y∧Am.Mod No s s'∧∀b,y.C b→s.nx≤b:=by
 refine bb hn Kz rfl ?_
 unfold aD aD
 refine uG ?_
 refine aj (Jq ho h0 h1) ?_ ?_
 ·rintro z s1 ⟨p,s1',G,y,e,hst,hm1,hG⟩
  cases e
  have hp:=hst.ptr
  subst hp
  refine uL ?_
  refine uG ?_
  refine uJ [0,4,12] ?_
  refine ae rfl rfl (fun hc=>?_) (fun hc=>?_)
  ·cases hc
  ·have hbx:∀ {s':St},dY (.agg [.int .i64 n, .int .i64 0, .ptr (some (y.sb,0)), .slc none 0 0 true, .map (some s1.nx)]) s'=some (.val (.ptr (some (s'.nx,0))) {s' with h:=s'.h.put s'.nx (.cells (Tr.of [.int .i64 n, .int .i64 0, .ptr (some (y.sb,0)), .slc none 0 0 true, .map (some s1.nx)]) 5),nx:=s'.nx+1}):=cX rfl
   (repeat(first|refine uS ?_ |refine aa rfl ?_));refine ad (by simp(disch:=omega) only[uB,uT,Ii,Dc,hbx];exact rfl) ?_;(repeat(first|refine uS ?_ |refine aa rfl ?_))
   refine ai rfl ?_
   have hlt:=hst.lt
   have hnx:=hm1.nx
   refine⟨_,_,⟨s1.nx+1,s1.nx, .ptr (some (y.sb,0)), .slc none 0 0 true,[],Tr.of [.int .i64 n, .int .i64 0, .ptr (some (y.sb,0)), .slc none 0 0 true, .map (some s1.nx)],G,y⟩,rfl,?_,(hm1.new _).new _,fun b hb=>?_⟩
   ·refine⟨rfl,bm,jK rfl rfl,?_,trivial,hst.mod (((Mod.refl No s1).new _).new _) (fun _ _ h=>h),Acc.nil,⟨fun h=>?_,fun h=>?_,by simp,fun b hb=>by cases hb⟩,⟨Nat.lt_succ_self _,Nat.lt_succ_of_lt (Nat.lt_succ_self _)⟩⟩
    ·show((s1.h.put s1.nx _).put (s1.nx+1) _).get s1.nx=_
     rw[aT (by omega),bm]
    ·have:s1.nx+1<s1.nx:=hlt _ h;omega
    ·have:s1.nx<s1.nx:=hlt _ h;omega
   ·rcases hb with hb|hb|hb|hb
    ·exact hG b hb
    ·have:b=s1.nx:=hb
     omega
    ·have:b=s1.nx+1:=hb
     omega
    ·cases hb
 ·rintro z s' ⟨_,_,_,_,e,_⟩
  cases e
theorem IA {ws:List (Str×Str×Bool)}{p:Option (Nat×Nat×Nat)}{n c:Nat}{x:Bool}:bz X 40 [(0, .int .i64 2),(1, .int .i64 3),(2, .int .i64 9),(6, .slc p n c x)]=some (.pure (.agg (bY (wC ws 0) ⟨.slc none 0 0 true, .slc none 0 0 true, .slc p n c x, .slc none 0 0 true⟩))):=by
 simp only[bz,bZ,ly,cS,ay,aF,fV,fY,fW,jt,cL,dc,AV.cells,dB,fB]
 rfl
end
end Go.Proofs.Ytofohkdkpbigiaa
end
section
namespace Go.Proofs.Ytofohkdkpbigiaa
open Go.Am
set_option maxRecDepth 10000
set_option maxHeartbeats 1000000
set_option linter.unusedSimpArgs false
section
variable {O:bj}
theorem HK:X.fns.get 4=some Try.f4:=by kernel_rfl
structure Gz (O:bj):Prop where
 dow:DoO O
 get:DQ O
 dput:EF O
 may:yt O
 mayf:O 13=none
 great:O 12=none
 new:O 5=none
 snew:O 16=none
 num:O 6=none
 entry:O 8=none
 store:O 9=none
 scan:Hc O
 aw:O 11=some AY
 whole:O 4=none
theorem A8 {c:Cmd}(h:(fw c).2≠0):(fw c).1=bu:=by
 unfold fw at*
 split at h
 ·split at h
  ·exact absurd rfl h
  ·rename_i h1 h2;rw[if_pos h1,if_neg h2]
 ·rename_i h1;rw[if_neg h1]
theorem G0:qZ bu=none:=by
 unfold qZ mN
 rw[if_neg (by intro h;exact absurd h.1 (by decide))]
theorem HB (ho:Gz O){s:St}(htd:Tidy s){ws:List (Str×Str×Bool)}{wv:AV}(hw:Sli s wv 3 (ws.map wrt))(hwb:∀b,blk wv=some b→b<s.nx)(hok:∀w∈ws,w.1.ok∧w.2.1.ok){room:Nat}(hr:room≤255){late:Bool}:
  Ca X O (.fn 4) [wv, .int .u8 (room:Int), .bool late] s fun r=>∃s',r= .ret (.bool true) s'∧Am.Mod No s s':=by
 obtain⟨a,cc,xx,rfl,_⟩:=hw.ex
 rw[List.length_map] at hw hwb ⊢
 have Z0:CL:=⟨.slc none 0 0 true, .slc none 0 0 true, .slc a ws.length cc xx, .slc none 0 0 true⟩
 obtain⟨ck,hck,_⟩:=ej (cs:=bY (wC ws 0) ⟨.slc none 0 0 true, .slc none 0 0 true, .slc a ws.length cc xx, .slc none 0 0 true⟩) (zs:=[.int .i64 0, .int .i64 0, .int .i64 0, .int .i64 0, .slc none 0 0 true, .slc none 0 0 true, .slc none 0 0 true, .int .i64 0, .int .i64 0, .int .i64 0, .str ⟨0,0⟩, .int .i64 0, .slc none 0 0 true]) rfl
 have hone:aX (bY (wC ws 0) ⟨.slc none 0 0 true, .slc none 0 0 true, .slc a ws.length cc xx, .slc none 0 0 true⟩)=true:=rfl
 refine bb ho.whole HK rfl ?_
 unfold aD aD aD aD
 refine fO ?_;refine ad (by simp(disch:=omega) only[uB,uT];exact rfl) ?_;refine dR ?_;refine cJ ?_
 refine fO ?_
 refine ad (by simp(disch:=omega) only[uB,uT,IA (ws:=ws),bQ ly rfl,AV.cells,th hone hck];exact rfl) ?_;refine dR ?_
 refine cJ ?_
 refine dy hck fun s1 hn1 hm1 g1=>?_
 refine fP (fun L s'=>∃dl:Int,(late=true∧dl=3∨late=false∧dl=0)∧Bx s' s.nx (bY (wC ws dl) ⟨.slc none 0 0 true, .slc none 0 0 true, .slc a ws.length cc xx, .slc none 0 0 true⟩)∧Am.Mod No s s'∧L=[(0, .slc a ws.length cc xx),(1, .int .u8 (room:Int)),(2, .bool late),(7, .ptr (some (s.nx,0)))]) ?_ ?_
 ·refine uG ?_
  refine uJ [0,1,2,7,21] ?_
  refine ae rfl rfl (fun hc=>?_) (fun hc=>?_)
  ·obtain⟨s2,e2,k2,hm2,n2⟩:=g1.stm (X:=X) (t:=3) (i:=7) (v:= .int .i64 0) (w:= .int .i64 3) rfl ay rfl rfl
   repeat(first|refine uS ?_ |refine aa rfl ?_ |refine ad (by simp(disch:=omega) only[uB,uT,mA,Nat.zero_add,e2];exact rfl) ?_)
   exact cG [(0, .slc a ws.length cc xx),(1, .int .u8 (room:Int)),(2, .bool late),(7, .ptr (some (s.nx,0)))] ⟨3, .inl ⟨hc,rfl⟩,k2,hm1.trans hm2 (fun b hb e=>by omega),rfl⟩ (by simp[aI,az])
  ·refine uG ?_
   exact cG [(0, .slc a ws.length cc xx),(1, .int .u8 (room:Int)),(2, .bool late),(7, .ptr (some (s.nx,0)))] ⟨0, .inr ⟨hc,rfl⟩,g1,hm1,rfl⟩ (by simp[aI,az])
 ·rintro L s2 ⟨dl,hdl,g2,hm2,rfl⟩
  have hdl3:dl=0∨dl=3:=by rcases hdl with⟨_,h⟩|⟨_,h⟩<;>omega
  have hw2:=hw.mod hm2 (fun _ _ h=>h)
  have hx2:oP s2 (fun _=>False) (.slc none 0 0 true) (wC ws dl).rows:=⟨[],Acc.nil.sli,fun c hc=>(by cases hc),trivial⟩
  repeat(first|refine uS ?_ |refine aa rfl ?_ |refine ad (by simp(disch:=omega) only[uB,uT,g2.all bZ rfl cn];exact rfl) ?_)
  refine aj (CF ho.great (c:=wC ws dl) (z:=⟨.slc none 0 0 true, .slc none 0 0 true, .slc a ws.length cc xx, .slc none 0 0 true⟩) Acc.nil.sli Acc.nil.sli hw2 hx2) ?_ ?_
  ·rintro r s3 ⟨b,s3',e,hm3,hb⟩
   cases e
   have hm03:=hm2.trans hm3 (fun _ _ h=>h)
   cases b with
   |true=>
    refine bD (by simp(disch:=omega) only[uB,uT,aP];exact rfl) ?_
    refine uH ?_
    refine uJ [29] ?_
    refine ae rfl rfl (fun hc=>?_) (fun hc=>?_)
    ·refine uG ?_
     refine aj (ku (Q:=fun z=>z= .ret (.bool true) s3) ho.aw rfl rfl) ?_ ?_
     ·rintro v s' e
      cases e
      refine uL ?_
      refine uG ?_
      refine ai rfl ?_
      exact⟨_,rfl,hm03⟩
     ·rintro v s' e
      cases e
    ·cases hc
   |false=>
    obtain⟨hb1,_⟩:=hb rfl
    obtain⟨hl1,hl2⟩:=Na hb1
    have g3:=g2.no hm3
    have hw3:=hw2.mod hm3 (fun _ _ h=>h)
    have hx3:=hx2.mod hm3 (fun _ h=>h.elim)
    have hcok:sc (wC ws dl):=⟨fun k hk=>(by cases hk),fun k hk=>(by cases hk),hok,si,fun k hk=>(by cases hk)⟩
    have hH3:jI s3 (wC ws dl) ⟨.slc none 0 0 true, .slc none 0 0 true, .slc a ws.length cc xx, .slc none 0 0 true⟩:=⟨Acc.nil.sli,Acc.nil.sli,hw3,Nat.zero_le _,Nat.zero_le _,by show ws.length≤_;omega,⟨_,_,_,_,rfl⟩⟩
    refine bD (by simp(disch:=omega) only[uB,uT,g3.all bZ rfl cn];exact rfl) ?_
    refine aj (vN ho.may ho.mayf hH3 hx3 hcok (Nat.zero_le _) (fun r hr=>by cases hr)) ?_ ?_
    ·rintro r s4 ⟨s4',e,hm4⟩
     cases e
     have hm04:=hm03.trans hm4 (fun _ _ h=>h)
     have g4:=g3.no hm4
     refine uL ?_
     refine uH ?_
     refine uJ [0,1,2,7,29] ?_
     refine ae rfl rfl (fun hc=>?_) (fun hc=>?_)
     ·refine uG ?_
      refine aj (ku (Q:=fun z=>z= .ret (.bool true) s4) ho.aw rfl rfl) ?_ ?_
      ·rintro v s' e
       cases e
       refine uL ?_
       refine uG ?_
       refine ai rfl ?_
       exact⟨_,rfl,hm04⟩
      ·rintro v s' e
       cases e
     ·have hmay:lv (wC ws dl)=true:=by simpa using hc
      have hlen:ws.length≤200:=by
       unfold lv gE at hmay
       simp only[Bool.and_eq_true,decide_eq_true_eq] at hmay
       exact hmay.2.2.2.2.2
      repeat(first|refine uS ?_ |refine aa rfl ?_ |refine ad (by simp(disch:=omega) only[uB,uT,Cj jB aN];exact rfl) ?_)
      refine aj (CH ho.new ho.snew (n:=1+(room:Int)) (by omega) (by omega)) ?_ ?_
      ·rintro r s5 ⟨p,s5',y0,e,hM,hm5,hfr⟩
       cases e
       have hm05:=hm04.trans hm5 (fun _ _ h=>h)
       have g5:=g4.no hm5
       refine uL ?_
       refine uG ?_
       refine aj (HV ho.num) ?_ ?_
       ·rintro r s' e
        cases e
        refine uL ?_
        refine uH ?_
        refine uJ [0,1,2,7,8,40] ?_
        refine ae rfl rfl (fun hc=>?_) (fun hc=>?_)
        ·cases hc
        ·have hA5:sY s5 (wC ws dl) ⟨.slc none 0 0 true, .slc none 0 0 true, .slc a ws.length cc xx, .slc none 0 0 true⟩:=⟨(hH3.no hm4).no hm5,⟨_,(hx3.mod hm4 (fun _ h=>h.elim)).mod hm5 (fun _ h=>h.elim),fun d hd=>hd.elim⟩,fun d hd=>by
          have:=hm05.nx
          rcases hd with hd|hd|hd
          ·cases hd
          ·cases hd
          ·have:=hwb d hd;omega,hcok⟩
         have htd5:=hm05.tidy htd
         have hlen1:=hl2 hlen
         have hpl:(fw (wC ws dl)).1.len≤100000:=by
          by_cases hp:(fw (wC ws dl)).2=0
          ·obtain⟨_,h2,h3⟩:=yS hp
           rw[h3];omega
          ·rw[A8 hp];exact Nat.zero_le _
         repeat(first|refine uS ?_ |refine aa rfl ?_ |refine ad (by simp(disch:=omega) only[uB,uT,g5.all bZ rfl cn];exact rfl) ?_)
         refine aj (C8 ho.dput ho.entry htd5 hA5 hlen1) ?_ ?_
         ·rintro r s6 ⟨s6',e,hm6⟩
          cases e
          have hm06:=hm05.trans hm6 (fun _ _ h=>h)
          have htd6:=hm6.tidy htd5
          refine uL ?_
          refine aj (Ml ho.dow (hM.no hm6) (⟨zP (by omega) (by omega),by show 1+(room:Int)≤4096;omega,rfl⟩:MOK ⟨1+(room:Int),0,qg (1+(room:Int)),[],[]⟩) htd6 (Nat.zero_le _) (t:=4) (L3 ho.get htd6 hpl)) ?_ ?_
          ·rintro r s7 ⟨s7',m1,y1,c1,e1,q,e,hM1,hG,hD,hm7,_,_,_⟩
           cases e
           have hm07:Am.Mod No s s7:=hm06.trans hm7 (fun b hb hC=>by have:=hfr b hC;have:=hm04.nx;omega)
           have g7:Bx s7 s.nx (bY (wC ws dl) ⟨.slc none 0 0 true, .slc none 0 0 true, .slc a ws.length cc xx, .slc none 0 0 true⟩):=(g5.no hm6).mod hm7 (fun hC=>by have:=hfr _ hC;have:=hn1;have:=hm1.nx;have:=g4.lt;omega)
           have hF:((fw (wC ws dl)).2=0∧DoR ⟨1+(room:Int),0,qg (1+(room:Int)),[],[]⟩ 4 (wC ws dl) 0 m1 q)∨((fw (wC ws dl)).2≠0∧q.code=3):=by
            by_cases hp:(fw (wC ws dl)).2=0
            ·rcases hG with⟨h,rfl⟩|⟨h,_⟩
             ·rw[AW hcok hp] at h;cases h
              exact .inl ⟨hp,hD⟩
             ·rw[AW hcok hp] at h;cases h
            ·rw[A8 hp] at hG
             rcases hG with⟨h,rfl⟩|⟨_,rfl,rfl⟩
             ·rw[G0] at h;cases h
             ·refine .inr ⟨hp,?_⟩
              rcases hD with⟨h|h,_⟩|⟨_,_,_,code,⟨h,_⟩|⟨_,_,h⟩,h2,_⟩
              ·exact absurd h (show ¬(4:Int)≤0 by decide)
              ·exact absurd h (by decide)
              ·exact absurd h (by decide)
              ·rw[h2];exact h
           have hk1:=Nb (⟨zP (by omega) (by omega),by show 1+(room:Int)≤4096;omega,rfl⟩:MOK ⟨1+(room:Int),0,qg (1+(room:Int)),[],[]⟩) hD
           clear hG hD
           obtain⟨cd,hcd,_⟩:=ej (cs:=[.int .i64 q.client, .int .i64 q.seq, .int .i64 q.time, .int .i64 q.code]) (zs:=[.int .i64 0, .int .i64 0, .int .i64 0, .int .i64 0]) rfl
           refine bD (by simp(disch:=omega) only[uB,uT,bQ qe rfl,AV.cells,dn,w7 hcd];exact rfl) ?_
           refine uH ?_
           refine dy hcd fun s8 hn8 hm8 d8=>?_
           have hm08:=hm07.trans hm8 (fun _ _ h=>h)
           have g8:=g7.no hm8
           have hM8:=hM1.no hm8
           have hw8:=hw.mod hm08 (fun _ _ h=>h)
           refine uJ [0,1,2,7,8,10] ?_
           refine ad (by simp(disch:=omega) only[uB,uT];exact rfl) ?_;refine dR ?_
           refine cJ ?_
           refine fP (fun L s'=>s8=s'∧L=[(0, .slc a ws.length cc xx),(1, .int .u8 (room:Int)),(2, .bool late),(7, .ptr (some (s.nx,0))),(8,p),(10, .ptr (some (s7.nx,0))),(11, .int .i64 ((iY ws:Nat):Int))]) ?_ ?_
           ·refine uG ?_
            let I:Nat→Sl→St→Prop:=fun i L s'=>s8=s'∧i≤ws.length∧L=[(0, .slc a ws.length cc xx),(1, .int .u8 (room:Int)),(2, .bool late),(7, .ptr (some (s.nx,0))),(8,p),(10, .ptr (some (s7.nx,0))),(11, .int .i64 ((iY (ws.take i):Nat):Int)),(12, .int .i64 (i:Int))]
            refine WL.less (M:=[(0, .slc a ws.length cc xx),(1, .int .u8 (room:Int)),(2, .bool late),(7, .ptr (some (s.nx,0))),(8,p),(10, .ptr (some (s7.nx,0))),(11, .int .i64 ((0:Nat):Int)),(12, .int .i64 ((0:Nat):Int))]) ?_ rfl
            refine aV I (fun i=>ws.length- i) ?_ ws.length 0 _ s8 (by simp) ⟨rfl,Nat.zero_le _,rfl⟩
            rintro i L _ ⟨rfl,hi,rfl⟩
            refine uG ?_
            refine uJ [0,1,2,7,8,10,11,12,48] ?_
            refine ae rfl rfl (fun hc=>?_) (fun hc=>?_)
            ·have hi2:i<ws.length:=by simp at hc;omega
             obtain⟨w,hwi⟩:∃w,ws[i]? =some w:=⟨_,List.getElem?_eq_getElem hi2⟩
             obtain⟨b5,off5,c5,x5,t5,n5,e5,_,k2,k3⟩:=hw8.at (i:=i) (r:=wrt w) (by simp[hwi])
             rw[List.length_map] at e5
             cases e5
             have k42:t5.get (off5+i*3+2)=some (.bool w.2.2):=(aR.mp k3).2 2 _ rfl
             have p2:=ah (X:=X) mg rfl eC k2 k42
             have hpt:iY (ws.take (i+1))=iY (ws.take i)+if isP w=true then 1 else 0:=by
              rw[List.take_add_one,hwi];exact lF
             have hpn:iY (ws.take i)≤200:=Nat.le_trans (List.length_filter_le _ _) (by rw[List.length_take];omega)
             cases hd:w.2.2 with
             |true=>
              rw[hd] at p2
              rw[if_neg (by unfold isP;rw[hd];exact Bool.false_ne_true)] at hpt
              repeat(first|refine uS ?_ |refine aa rfl ?_ |refine ad (by simp(disch:=omega) only[uB,uT,aQ ct bT,Int.toNat_natCast,j7,Nat.zero_add,p2,Bool.not_true];exact rfl) ?_)
              refine uJ [0,1,2,7,8,10,11,12,56] ?_
              refine ae rfl rfl (fun hc=>?_) (fun hc=>?_)
              ·cases hc
              ·refine uG ?_
               exact aH (i+1) [(0, .slc (some (b5,off5,3)) ws.length cc xx),(1, .int .u8 (room:Int)),(2, .bool late),(7, .ptr (some (s.nx,0))),(8,p),(10, .ptr (some (s7.nx,0))),(11, .int .i64 ((iY (ws.take i):Nat):Int)),(12, .int .i64 ((i+1:Nat):Int))] ⟨rfl,by omega,by rw[hpt];rfl⟩ (by show ws.length- (i+1)<ws.length- i;omega) (by simp[aI,az])
             |false=>
              rw[hd] at p2
              rw[if_pos (by unfold isP;rw[hd];rfl)] at hpt
              repeat(first|refine uS ?_ |refine aa rfl ?_ |refine ad (by simp(disch:=omega) only[uB,uT,aQ ct bT,Int.toNat_natCast,j7,Nat.zero_add,p2,Bool.not_false];exact rfl) ?_)
              refine uJ [0,1,2,7,8,10,11,12,56] ?_
              refine ae rfl rfl (fun hc=>?_) (fun hc=>?_)
              ·refine uG ?_
               exact aH (i+1) [(0, .slc (some (b5,off5,3)) ws.length cc xx),(1, .int .u8 (room:Int)),(2, .bool late),(7, .ptr (some (s.nx,0))),(8,p),(10, .ptr (some (s7.nx,0))),(11, .int .i64 ((iY (ws.take i)+1:Nat):Int)),(12, .int .i64 ((i+1:Nat):Int))] ⟨rfl,by omega,by rw[hpt]⟩ (by show ws.length- (i+1)<ws.length- i;omega) (by simp[aI,az])
              ·cases hc
            ·have hi2:i=ws.length:=by simp at hc;omega
             subst hi2
             refine uG ?_
             exact cG [(0, .slc a ws.length cc xx),(1, .int .u8 (room:Int)),(2, .bool late),(7, .ptr (some (s.nx,0))),(8,p),(10, .ptr (some (s7.nx,0))),(11, .int .i64 ((iY ws:Nat):Int))] ⟨rfl,rfl⟩ (by simp[aI,az])
           ·rintro L _ ⟨rfl,rfl⟩
            have htd8:=hm08.tidy htd
            have hA8:sY s8 (wC ws dl) ⟨.slc none 0 0 true, .slc none 0 0 true, .slc a ws.length cc xx, .slc none 0 0 true⟩:=⟨⟨Acc.nil.sli,Acc.nil.sli,hw8,Nat.zero_le _,Nat.zero_le _,by show ws.length≤_;omega,⟨_,_,_,_,rfl⟩⟩,⟨fun _=>False,⟨[],Acc.nil.sli,fun c hc=>(by cases hc),trivial⟩,fun d hd=>hd.elim⟩,fun d hd=>by
             have:=hm08.nx
             rcases hd with hd|hd|hd
             ·cases hd
             ·cases hd
             ·have:=hwb d hd;omega,hcok⟩
            repeat(first|refine uS ?_ |refine aa rfl ?_ |refine ad (by simp(disch:=omega) only[uB,uT,g8.all bZ rfl cn];exact rfl) ?_)
            refine aj (yu ho.dput htd8 hA8 hlen1) ?_ ?_
            ·rintro r s9 ⟨s9',e,hm9⟩
             cases e
             have hm09:=hm08.trans hm9 (fun _ _ h=>h)
             have d9:=d8.no hm9
             have hM9:=hM8.no hm9
             have hw9:=hw8.mod hm9 (fun _ _ h=>h)
             refine uL ?_
             rcases hF with⟨hp,hD⟩|⟨hp,hq⟩
             ·have dp:decide ((fw (wC ws dl)).2=0)=true:=by simpa using hp
              have bp:(fw (wC ws dl)).1.beq bu=false:=by
               obtain⟨_,_,h3⟩:=yS hp
               refine Str.beq_false.mpr fun h=>?_
               have:=congrArg Str.len (h3.symm.trans h)
               rw[nL] at this
               exact absurd this (by show ¬_=0;omega)
              repeat(first|refine uS ?_ |refine aa rfl ?_ |refine ad (by simp(disch:=omega) only[uB,uT,dp,Bool.not_true,bk,bp];exact rfl) ?_)
              refine uJ [0,1,2,8,10,11,69] ?_
              refine ae rfl rfl (fun hc=>?_) (fun hc=>?_)
              ·cases hc
              ·have hlaw:=EN hr hmay hdl3 hD
               refine uG ?_
               refine aj (v9 ho.store hM9) ?_ ?_
               ·rintro r s' e
                cases e
                refine bD (by simp(disch:=omega) only[uB,uT,bk];exact rfl) ?_
                refine aj (Fl ho.scan hM9.st hk1.st (t:=4) (n:=1000) (lo:=bu) (hi:=bu)) ?_ ?_
                ·rintro r s10 ⟨u,s10',e,hm10,hacc,_⟩
                 cases e
                 have hm010:=hm09.trans hm10 (fun _ _ h=>h)
                 have d10:=d9.no hm10
                 have hM10:=hM9.no hm10
                 have hw10:=hw9.mod hm10 (fun _ _ h=>h)
                 obtain⟨au,cu,xu,rfl,_⟩:=hacc.sli.ex
                 clear hacc
                 rw[List.length_map]
                 generalize hN:(jW m1.st.all 4 1000 (m1.st.ps.flatten.filter (inK bu bu)) []).length=N at*
                 have lc:aO X 3 (.ptr (some (s7.nx,3))) s10=some (.old (.int .i64 q.code)):=d10.ld (i:=3) rfl aN rfl ay
                 refine uL ?_
                 have hN0:m1.st=qg (1+(room:Int))→N=0:=fun h=>by rw[←hN,h];rfl
                 rcases hlaw with⟨rfl,hq,h1⟩|⟨rfl,hpl2,hq,h1⟩|⟨rfl,hpl2,hq,h1,hget⟩
                 ·have hla:late=true:=by rcases hdl with⟨h,h2⟩|⟨h,h2⟩<;>first|exact h|omega
                  subst hla
                  have hN1:=hN0 h1
                  subst hN1
                  have dq:decide (q.code=14)=true:=by simpa using hq
                  repeat(first|refine uS ?_ |refine aa rfl ?_ |refine ad (by simp(disch:=omega) only[uB,uT,aP];exact rfl) ?_)
                  refine uJ [1,2,10,11,15,86] ?_
                  refine ae rfl rfl (fun hc=>?_) (fun hc=>?_)
                  ·have d0:decide (((0:Nat):Int)=0)=true:=rfl
                   repeat(first|refine uS ?_ |refine aa rfl ?_ |refine ad (by simp(disch:=omega) only[uB,uT,aP,Ft,Nat.zero_add,lc,dq,d0];exact rfl) ?_)
                   refine aj (ku (Q:=fun z=>z= .ret (.bool true) s10) ho.aw rfl rfl) ?_ ?_
                   ·rintro v s' e
                    cases e
                    refine uL ?_
                    refine uG ?_
                    refine ai rfl ?_
                    exact⟨_,rfl,hm010⟩
                   ·rintro v s' e
                    cases e
                  ·cases hc
                 ·have hla:late=false:=by rcases hdl with⟨h,h2⟩|⟨h,h2⟩<;>first|exact h|omega
                  subst hla
                  have hN1:=hN0 h1
                  subst hN1
                  have dq:decide (q.code=4)=true:=by simpa using hq
                  have dr:decide (1+(room:Int)<((iY ws:Nat):Int))=true:=by simpa using hpl2
                  repeat(first|refine uS ?_ |refine aa rfl ?_ |refine ad (by simp(disch:=omega) only[uB,uT,Cj jB aN,dr];exact rfl) ?_)
                  refine uJ [1,2,10,11,15,86] ?_
                  refine ae rfl rfl (fun hc=>?_) (fun hc=>?_)
                  ·have d0:decide (((0:Nat):Int)=0)=true:=rfl
                   repeat(first|refine uS ?_ |refine aa rfl ?_ |refine ad (by simp(disch:=omega) only[uB,uT,aP,Bool.not_false,Ft,Nat.zero_add,lc,dq,d0];exact rfl) ?_)
                   refine aj (ku (Q:=fun z=>z= .ret (.bool true) s10) ho.aw rfl rfl) ?_ ?_
                   ·rintro v s' e
                    cases e
                    refine uL ?_
                    refine uG ?_
                    refine ai rfl ?_
                    exact⟨_,rfl,hm010⟩
                   ·rintro v s' e
                    cases e
                  ·cases hc
                 ·have hla:late=false:=by rcases hdl with⟨h,h2⟩|⟨h,h2⟩<;>first|exact h|omega
                  subst hla
                  subst h1
                  have dq:decide (q.code=0)=true:=by simpa using hq
                  have dr:decide (1+(room:Int)<((iY ws:Nat):Int))=false:=by simp;omega
                  have dn1:decide (((iY ws:Nat):Int)=((iY ws:Nat):Int))=true:=by simp
                  repeat(first|refine uS ?_ |refine aa rfl ?_ |refine ad (by simp(disch:=omega) only[uB,uT,Cj jB aN,dr];exact rfl) ?_)
                  refine uJ [0,8,10,11,15,86] ?_
                  refine ae rfl rfl (fun hc=>?_) (fun hc=>?_)
                  ·cases hc
                  ·repeat(first|refine uS ?_ |refine aa rfl ?_ |refine ad (by simp(disch:=omega) only[uB,uT,Ft,Nat.zero_add,lc,dq,dn1,Bool.not_true];exact rfl) ?_)
                   refine uJ [0,8,118] ?_
                   refine ae rfl rfl (fun hc=>?_) (fun hc=>?_)
                   ·cases hc
                   ·have hpe:=hM10.ptr
                    subst hpe
                    refine oC ?_
                    refine cJ ?_
                    refine fP (fun L s'=>Am.Mod No s10 s'∧L=[(8, .ptr (some (y1.mb,0)))]) ?_ ?_
                    ·refine uG ?_
                     let I:Nat→Sl→St→Prop:=fun i L s'=>Am.Mod No s10 s'∧i≤ws.length∧L=[(0, .slc a ws.length cc xx),(8, .ptr (some (y1.mb,0))),(16, .int .i64 (i:Int))]
                     refine WL.less (M:=[(0, .slc a ws.length cc xx),(8, .ptr (some (y1.mb,0))),(16, .int .i64 ((0:Nat):Int))]) ?_ rfl
                     refine aV I (fun i=>ws.length- i) ?_ ws.length 0 _ s10 (by simp) ⟨Mod.refl _ _,Nat.zero_le _,rfl⟩
                     rintro i L s11 ⟨hm11,hi,rfl⟩
                     refine uG ?_
                     refine uJ [0,8,16,122] ?_
                     refine ae rfl rfl (fun hc=>?_) (fun hc=>?_)
                     ·have hi2:i<ws.length:=by simp at hc;omega
                      obtain⟨w,hwi⟩:∃w,ws[i]? =some w:=⟨_,List.getElem?_eq_getElem hi2⟩
                      obtain⟨b5,off5,c5,x5,t5,n5,e5,hlt5,k2,k3⟩:=(hw10.mod hm11 (fun _ _ h=>h)).at (i:=i) (r:=wrt w) (by simp[hwi])
                      rw[List.length_map] at e5
                      cases e5
                      have k4:=(aR.mp k3).2
                      have k40:t5.get (off5+i*3)=some (.str w.1):=by simpa using k4 0 _ rfl
                      have k41:t5.get (off5+i*3+1)=some (.str w.2.1):=k4 1 _ rfl
                      have k42:t5.get (off5+i*3+2)=some (.bool w.2.2):=k4 2 _ rfl
                      have p0:=ah (X:=X) aE rfl aF k2 k40
                      have hg:=hget w (List.mem_of_getElem? hwi)
                      have hg1:(nE (lkA m1.st.all w.1) 4).1=w.2.1:=by rw[hg]
                      have hg2:(nE (lkA m1.st.all w.1) 4).2= !w.2.2:=by rw[hg]
                      have hM11:=hM10.no hm11
                      refine uH ?_
                      refine aU [(0,none),(2,none),(3,none),(4,none),(5,none),(6,none),(1,some [true,true,true,true,true,false]),(7,some [false,true,true,true,true]),(8,none),(9,none),(10,none),(11,some [true,false,false,false,false,false,false]),(12,some [false])] (by kernel_rfl) (by kernel_rfl) (by simp(disch:=omega) only[uB,uT,Nat.reduceEqDiff,↓reduceIte,uD,mask,aC,aB,aQ ct bT,Int.toNat_natCast,iD,Nat.zero_add,p0];exact rfl) ?_
                      refine cg (v9 ho.store hM11) ?_ ?_
                      ·rintro r s' e
                       cases e
                       refine⟨_,(by simp(disch:=omega) only[uB,uT,Nat.reduceEqDiff,↓reduceIte,uE,aC,aB,aQ ct bT,Int.toNat_natCast,iD,Nat.zero_add,p0];exact rfl),?_⟩
                       refine cg (vM ho.scan.get hM11.st hk1.st (t:=4) (k:=w.1)) ?_ ?_
                       ·rintro r s12 ⟨s12',e,hm12⟩
                        cases e
                        have k2':=(hm12.old _ hlt5 (fun h=>h)).trans k2
                        have p0':=ah (X:=X) aE rfl aF k2' k40
                        have p1:=ah (X:=X) aE rfl aF k2' k41
                        have p2:=ah (X:=X) mg rfl eC k2' k42
                        have hne:((!w.2.2)==w.2.2)=false:=by cases w.2.2<;>rfl
                        have hbb:w.2.1.beq w.2.1=true:=Str.fT _
                        refine⟨_,(by simp(disch:=omega) only[uB,uT,Nat.reduceEqDiff,↓reduceIte,uE,aC,aB,aQ ct bT,Int.toNat_natCast,iD,Nat.zero_add,p0',hg1,hg2];exact rfl),?_⟩
                        repeat(first|refine uS ?_ |refine aa rfl ?_ |refine ad (by simp(disch:=omega) only[uB,uT,aQ ct bT,Int.toNat_natCast,kj,j7,Nat.zero_add,p1,p2,OQ mg,hne,hbb,Bool.not_true];exact rfl) ?_)
                        refine uJ [0,8,16,151] ?_
                        refine ae rfl rfl (fun hc=>?_) (fun hc=>?_)
                        ·cases hc
                        ·refine uG ?_
                         exact aH (i+1) [(0, .slc (some (b5,off5,3)) ws.length cc xx),(8, .ptr (some (y1.mb,0))),(16, .int .i64 ((i+1:Nat):Int))] ⟨hm11.trans hm12 (fun _ _ h=>h),by omega,rfl⟩ (by show ws.length- (i+1)<ws.length- i;omega) (by simp[aI,az])
                       ·rintro r s' ⟨_,e,_⟩
                        cases e
                      ·rintro r s' e
                       cases e
                     ·refine uG ?_
                      exact cG [(8, .ptr (some (y1.mb,0)))] ⟨hm11,rfl⟩ (by simp[aI,az])
                    ·rintro L s13 ⟨hm13,rfl⟩
                     refine uG ?_
                     refine aj (ku (Q:=fun z=>z= .ret (.bool true) s13) ho.aw rfl rfl) ?_ ?_
                     ·rintro v s' e
                      cases e
                      refine uL ?_
                      refine uG ?_
                      refine ai rfl ?_
                      exact⟨_,rfl,hm010.trans hm13 (fun _ _ h=>h)⟩
                     ·rintro v s' e
                      cases e
                ·rintro r s' ⟨_,_,e,_⟩
                 cases e
               ·rintro r s' e
                cases e
             ·have dp:decide ((fw (wC ws dl)).2=0)=false:=by simpa using hp
              have dq:decide (q.code=3)=true:=by simpa using hq
              have lc:aO X 3 (.ptr (some (s7.nx,3))) s9=some (.old (.int .i64 q.code)):=d9.ld (i:=3) rfl aN rfl ay
              repeat(first|refine uS ?_ |refine aa rfl ?_ |refine ad (by simp(disch:=omega) only[uB,uT,dp,Bool.not_false,aP];exact rfl) ?_)
              refine uJ [10,69] ?_
              refine ae rfl rfl (fun hc=>?_) (fun hc=>?_)
              ·repeat(first|refine uS ?_ |refine aa rfl ?_ |refine ad (by simp(disch:=omega) only[uB,uT,Ft,Nat.zero_add,lc,dq];exact rfl) ?_)
               refine aj (ku (Q:=fun z=>z= .ret (.bool true) s9) ho.aw rfl rfl) ?_ ?_
               ·rintro v s' e
                cases e
                refine uL ?_
                refine uG ?_
                refine ai rfl ?_
                exact⟨_,rfl,hm09⟩
               ·rintro v s' e
                cases e
              ·cases hc
            ·rintro r s' ⟨_,e,_⟩
             cases e
          ·rintro r s' ⟨_,_,_,_,_,_,e,_⟩
           cases e
         ·rintro r s' ⟨_,e,_⟩
          cases e
       ·rintro r s' e
        cases e
      ·rintro r s' ⟨_,_,_,e,_⟩
       cases e
    ·rintro r s' ⟨_,e,_⟩
     cases e
  ·rintro r s' ⟨_,_,e,_⟩
   cases e
end
end Go.Proofs.Ytofohkdkpbigiaa
end
section
namespace Go.Am
open Go.WideShapes Go.ChangeShapes
set_option maxRecDepth 10000
theorem IN {α:Type}(f:Nat→Option α):∀n,∃t:Tr α,∀j,t.get j=if j<n then f j else none
 |0=>⟨.e,fun j=>by rw[Tr.ry,if_neg (Nat.not_lt_zero j)]⟩
 |n+1=>by
  obtain⟨t,h⟩:=IN f n
  cases hf:f n with
  |none=>
   refine⟨t,fun j=>?_⟩
   rw[h]
   by_cases h1:j<n
   ·rw[if_pos h1,if_pos (by omega)]
   ·rw[if_neg h1]
    by_cases h2:j=n
    ·subst h2;rw[if_pos (by omega),hf]
    ·rw[if_neg (by omega)]
  |some v=>
   refine⟨t.put n v,fun j=>?_⟩
   by_cases h2:j=n
   ·subst h2;rw[bm,if_pos (by omega),hf]
   ·rw[aT (fun e=>h2 e),h]
    by_cases h1:j<n
    ·rw[if_pos h1,if_pos (by omega)]
    ·rw[if_neg h1,if_neg (by omega)]
def y8 (n:Nat)(g:Nat→Nat→Option AV):Inj:=fun b=>if b<n then some (b,0,fun j=>∃v,g b j=some v) else none
theorem J1 {n:Nat}{g:Nat→Nat→Option AV}{b:Nat}(h:b<n):y8 n g b=some (b,0,fun j=>∃v,g b j=some v):=if_pos h
theorem oL {n:Nat}{g:Nat→Nat→Option AV}{b cb:Nat}{d:WD}(h:y8 n g b=some (cb,d)):b<n∧cb=b∧d=(0,fun j=>∃v,g b j=some v):=by
 unfold y8 at h
 split at h
 ·rename_i hb;simp only[Option.some.injEq,Prod.mk.injEq] at h;exact⟨hb,h.1.symm,by rw[←h.2]⟩
 ·cases h
structure Ir (w:World)(g:Nat→Nat→Option AV):Prop where
 cell:∀b j v,g b j=some v→∃cs e fz cv,w.heap[b]? =some (.cells cs e fz)∧cs[j]? =some cv∧¬(fz.1≤j∧j<fz.2)∧VR (y8 w.heap.size g) v cv
 exact:∀b j v,g b j=some v→∀ι cv cv',VR ι v cv→VR ι v cv'→cv=cv'
theorem yo {P:Program}{w:World}{g:Nat→Nat→Option AV}(h:Ir w g):
  ∃s:St,HR P (y8 w.heap.size g) s w∧s.nx=w.heap.size∧Tidy s∧(∀b j v,g b j=some v→∃t n,s.h.get b=some (.cells t n)∧∀i,t.get i=g b i)∧
   ∀b ab,s.h.get b=some ab→∃t n,ab= .cells t n∧(∃j v,g b j=some v)∧∀i,t.get i=g b i:=by
 classical
 have hT:∀b,∃t:Tr AV,∃n,∀j v,g b j=some v→j<n→t.get j=g b j:=fun b=>⟨.e,0,fun _ _ _ h=>absurd h (Nat.not_lt_zero _)⟩
 have hT2:∀b,∃t:Tr AV,(∀i,t.get i=g b i)∨¬ ∃j v,g b j=some v:=fun b=>by
  by_cases hb:∃j v,g b j=some v
  ·obtain⟨j0,v0,h0⟩:=hb
   obtain⟨cs,e,fz,_,h1,_⟩:=h.cell b j0 v0 h0
   obtain⟨t,ht⟩:=IN (g b) cs.size
   refine⟨t, .inl fun i=>?_⟩
   rw[ht]
   split
   ·rfl
   ·rename_i hi
    cases hg:g b i with
    |none=>rfl
    |some v=>
     obtain⟨cs',e',fz',cv,k1,k2,_⟩:=h.cell b i v hg
     rw[h1] at k1;cases k1
     have:=(Array.getElem?_eq_some_iff.mp k2).1
     omega
  ·exact⟨.e, .inr hb⟩
 let T:Nat→Tr AV:=fun b=>Classical.choose (hT2 b)
 have TT:∀b j v,g b j=some v→∀i,(T b).get i=g b i:=fun b j v hg=>by
  rcases Classical.choose_spec (hT2 b) with h|h
  ·exact h
  ·exact absurd ⟨j,v,hg⟩ h
 let sz:Nat→Nat:=fun b=>match w.heap[b]? with
  |some (.cells cs _ _)=>cs.size
  | _=>0
 let F:Nat→Option AB:=fun b=>if ∃j v,g b j=some v then some (.cells (T b) (sz b+iM)) else none
 obtain⟨H,hH⟩:=IN F w.heap.size
 have get:∀b ab,H.get b=some ab→ab= .cells (T b) (sz b+iM)∧∃j v,g b j=some v:=fun b ab hb=>by
  rw[hH] at hb
  split at hb
  ·simp only[F] at hb
   split at hb
   ·rename_i hx;cases hb;exact⟨rfl,hx⟩
   ·cases hb
  ·cases hb
 refine⟨⟨H,w.heap.size, .e,[]⟩,⟨fun b c hc=>?_,fun b cb d hb _=>?_,fun b x hb=>?_,fun b cb d ab hb hg=>?_,fun b b' cb d d' ab ab' h1 h2 _ _=>?_⟩,rfl,fun b hb=>?_,fun b j v hg=>?_,fun b ab hb=>?_⟩
 ·have hc:(Tr.e:Tr (Tr AV)).get b=some c:=hc
  rw[Tr.ry] at hc;cases hc
 ·obtain⟨_,_,rfl⟩:=oL hb;rfl
 ·obtain⟨cb,d⟩:=x;exact(oL hb).1
 ·obtain⟨hlt,rfl,rfl⟩:=oL hb
  obtain⟨rfl,j0,v0,h0⟩:=get cb ab hg
  obtain⟨cs,e,fz,_,k1,_⟩:=h.cell cb j0 v0 h0
  have hs:sz cb=cs.size:=by show(match w.heap[cb]? with|some (.cells cs _ _)=>cs.size| _=>0)=_;rw[k1]
  refine⟨cs,e,fz,k1,fun j ⟨v,hv⟩=>?_,fun i v hv=>?_,fun hw=>absurd hw (by omega)⟩
  ·obtain⟨cs',e',fz',cv,q1,q2,q3,_⟩:=h.cell cb j v hv
   rw[k1] at q1;cases q1
   exact⟨(Array.getElem?_eq_some_iff.mp q2).1,q3⟩
  ·rw[TT cb j0 v0 h0] at hv
   obtain⟨cs',e',fz',cv,q1,q2,q3,q4⟩:=h.cell cb i v hv
   rw[k1] at q1;cases q1
   have:=(Array.getElem?_eq_some_iff.mp q2).1
   refine⟨by omega,⟨v,?_⟩,cv,?_,q4⟩
   ·simp only[Nat.zero_add];exact hv
   ·simp only[Nat.zero_add];exact q2
 ·obtain⟨_,rfl,_⟩:=oL h1
  obtain⟨_,rfl,_⟩:=oL h2
  rfl
 ·show H.get b=none
  rw[hH,if_neg (by have:w.heap.size≤b:=hb;omega)]
 ·obtain⟨cs,e,fz,_,k1,_⟩:=h.cell b j v hg
  refine⟨T b,sz b+iM,?_,TT b j v hg⟩
  show H.get b=_
  rw[hH,if_pos (DV k1)]
  simp only[F]
  rw[if_pos ⟨j,v,hg⟩]
 ·obtain⟨rfl,j,v,hg⟩:=get b ab hb
  exact⟨_,_,rfl,⟨j,v,hg⟩,TT b j v hg⟩
theorem xV {P:Program}{X:Ctx}(hX:dU P X)(hF:∀f fn,X.fns.get f=some fn→sU fn=true){own:bj}(ho:pc P own){w:World}{g:Nat→Nat→Option AV}(hg:Ir w g){s:St}(hs:HR P (y8 w.heap.size g) s w)(hn:s.nx=w.heap.size)
  (hl:∀b ab,s.h.get b=some ab→∃t n,ab= .cells t n∧(∃j v,g b j=some v)∧∀i,t.get i=g b i){n:Nat}{f:FuncId}{args:List AV}{v:AV}{s':St}
  (he:mw X own n f args s=some (.ret v s'))(hk:∀b,b<s.nx→s'.h.get b=s.h.get b){cargs:Array Value}(hv:VRs (y8 w.heap.size g) args cargs.toList):
  Calls P f cargs w fun e w'=>∃cv κ,e= .returned cv∧VR κ v cv∧oX w w':=by
 obtain⟨_,h2⟩:=lj hX hF ho n he hv hs
 refine Calls.mono (BU h2) fun e w' he=>?_
 cases e with
 |outgrown=>exact he.elim
 |panicked c=>obtain⟨_,_,e,_⟩:=he;cases e
 |returned cv=>
  obtain⟨v1,s1,e,κ,q1,q2,q3⟩:=he
  cases e
  refine⟨cv,κ,rfl,q1,q3.kin,q3.size,fun cb hcb=>?_⟩
  by_cases hO:Own (y8 w.heap.size g) s cb
  ·obtain⟨b,d,ab,h1,h3⟩:=hO
   obtain⟨hlt,rfl,rfl⟩:=oL h1
   obtain⟨t,m,rfl,⟨j0,v0,h0⟩,ht⟩:=hl cb ab h3
   obtain⟨cs,e,fz,_,k1,_⟩:=hg.cell cb j0 v0 h0
   obtain⟨cs',k2,k3,k4⟩:=q3.kept cb cs e fz k1
   rw[k2,k1]
   have:cs'=cs:=by
    refine Array.ext_getElem? fun j=>?_
    cases hj:g cb j with
    |none=>
     refine k4 j ?_
     rintro⟨b,d,ab,y1,_,y3⟩
     obtain⟨_,rfl,rfl⟩:=oL y1
     obtain⟨v,hv⟩:=y3
     rw[hv] at hj;cases hj
    |some u=>
     obtain⟨cs1,e1,fz1,cv1,z1,z2,_,z4⟩:=hg.cell cb j u hj
     rw[k1] at z1;cases z1
     have hκ:κ cb=some (cb,0,fun j=>∃v,g cb j=some v):=(q3.old cb (by omega)).trans h1
     obtain⟨cs2,e2,fz2,y1,_,y3,_⟩:=q2.br cb cb _ _ hκ ((hk cb (by omega)).trans h3)
     rw[k2] at y1;cases y1
     obtain⟨_,_,cv2,x1,x2⟩:=y3 j u ((ht j).trans hj)
     simp only[Nat.zero_add] at x1
     rw[x1,z2,hg.exact cb j u hj κ cv1 cv2 (z4.mono q3.le) x2]
   rw[this]
  ·exact(q3.jn cb hcb hO).1
def wh:AV→Bool
 | .bool _=>true
 | .int _ _=>true
 | .flt _ _=>true
 | .str _=>true
 | .slc none _ _ _=>true
 | .slc (some _) _ _ x=>x
 | _=>false
theorem F5 {a:AV}(h:wh a=true)(ι:Inj)(v u:Value)(h1:VR ι a v)(h2:VR ι a u):v=u:=by
 cases a with
 |bool b=>simp only[VR] at h1 h2;rw[h1,h2]
 |int k n=>simp only[VR] at h1 h2;rw[h1,h2]
 |flt k n=>simp only[VR] at h1 h2;rw[h1,h2]
 |str s=>
  obtain⟨b,rfl,rfl⟩:=h1.str
  obtain⟨c,rfl,e⟩:=h2.str
  have:=Str.N4 e
  congr 1
  cases b;cases c;simp only at this ⊢
  congr 1
  exact Array.toList_inj.mp this
 |slc a n c x=>
  cases a with
  |none=>simp only[VR] at h1 h2;rw[h1.2.2.2,h2.2.2.2]
  |some p=>
   obtain⟨b,o,es⟩:=p
   simp only[wh] at h
   subst h
   simp only[VR] at h1 h2
   obtain⟨cb,d,off,m,q1,rfl,q2,_,_,q3,_⟩:=h1
   obtain⟨cb',d',off',m',r1,rfl,r2,_,_,r3,_⟩:=h2
   rw[q1] at r1
   simp only[Option.some.injEq,Prod.mk.injEq] at r1
   obtain⟨rfl,rfl⟩:=r1
   have e1:=q2 (.inr trivial)
   have e2:=r2 (.inr trivial)
   rw[e1,e2,q3 trivial,r3 trivial]
 | _=>simp[wh] at h
end Go.Am
end
section
namespace Go.Am
open Go.WideShapes Go.ChangeShapes
set_option maxRecDepth 10000
def uc:Value→Option AV
 | .bool b=>some (.bool b)
 | .int k n=>some (.int k n)
 | .float k n=>some (.flt k n)
 | .string s=>some (.str (Str.of s))
 | _=>none
theorem AJ {ι:Inj}{v:Value}{a:AV}(h:uc v=some a):VR ι a v∧wh a=true:=by
 cases v<;>simp only[uc,Option.some.injEq,reduceCtorEq] at h<;>subst h<;>simp[VR,wh]
noncomputable def gP (w:World)(ps:List MemPlace)(b j:Nat):Option AV:=if MemPlace.cell b j∈ps then(w.cell? ⟨b,j,none⟩).bind uc else none
theorem DA {w:World}{ps:List MemPlace}{b j:Nat}{v:AV}(h:gP w ps b j=some v):MemPlace.cell b j∈ps∧∃cv,w.cell? ⟨b,j,none⟩=some cv∧uc cv=some v:=by
 unfold gP at h
 split at h
 ·rename_i hp
  cases hc:w.cell? ⟨b,j,none⟩ with
  |none=>rw[hc] at h;cases h
  |some cv=>rw[hc] at h;exact⟨hp,cv,rfl,h⟩
 ·cases h
theorem FL {w:World}{b j:Nat}{cv:Value}(h:w.cell? ⟨b,j,none⟩=some cv):∃cs e fz,w.heap[b]? =some (.cells cs e fz)∧cs[j]? =some cv:=by
 unfold World.cell? at h
 cases ho:w.heap[b]? with
 |none=>simp[ho] at h
 |some o=>
  simp only[ho] at h
  cases o with
  |cells cs e fz=>exact⟨cs,e,fz,rfl,by simpa using h⟩
  | _=>cases h
theorem Js {w:World}{ps:List MemPlace}(hz:w.noneFrozen ps):Ir w (gP w ps):=by
 refine⟨fun b j v h=>?_,fun b j v h ι cv cv' h1 h2=>?_⟩
 ·obtain⟨hp,cv,h1,h2⟩:=DA h
  obtain⟨cs,e,fz,h3,h4⟩:=FL h1
  refine⟨cs,e,fz,cv,h3,h4,fun hf=>?_,(AJ h2).1⟩
  have:=hz b j hp
  simp only[World.frozen?,h3] at this
  simp only[Bool.and_eq_false_iff,decide_eq_false_iff_not] at this
  rcases this with h|h
  ·exact h hf.1
  ·exact h hf.2
 ·obtain⟨_,_,_,h3⟩:=DA h
  exact F5 (AJ (ι:=ι) h3).2 ι cv cv' h1 h2
section
variable {H:Type}{enc:TypeId×Value→H}{P:Program}{w:World}
theorem Fg {t e:TypeId}{fuel c o len cap:Nat}{x:DataW H×List MemPlace}(ht:P.underlying t=some (.slice e))(h:DataW.trod enc P w 0 (fun _=>true) true fuel t [.slice (some ⟨c,o,none⟩) len cap]=some x):
  len≤cap∧cap≤maxLen∧∀i,i<cap→∃ (cs:List Value) (y:DataW H×List MemPlace) (n:Nat),cs.length=P.cellsOf e∧
   (∀k v,cs[k]? =some v→w.cell? ⟨c,o+i*P.cellsOf e+k,none⟩=some v∧MemPlace.cell c (o+i*P.cellsOf e+k)∈x.2)∧DataW.trod enc P w 0 (fun _=>true) true n e cs=some y:=by
 rcases DataW.trod_slice ht h with⟨e,_⟩|⟨a,len',cap',elems,rest,n,_,hcs,rfl,_,hl,hm,hlen,hel,hsp,_⟩
 ·cases e
 ·cases hcs
  obtain⟨hr,hrel⟩:=hsp rfl
  refine⟨hl,hm,fun i hi=>?_⟩
  obtain⟨y,hy⟩:∃y,(w.cells? 0 (Addr.add ⟨c,o,none⟩ (i*P.cellsOf e)) (P.cellsOf e)).bind (DataW.trod enc P w 0 (fun _=>true) true n e)=some y:=by
   by_cases h1:i<len
   ·rw[hel i h1];exact⟨_,List.getElem?_eq_getElem (by omega)⟩
   ·have:=hrel (i- len) (by omega)
    rw[show len+(i- len)=i by omega] at this
    rw[this];exact⟨_,List.getElem?_eq_getElem (by omega)⟩
  cases hc:w.cells? 0 (Addr.add ⟨c,o,none⟩ (i*P.cellsOf e)) (P.cellsOf e) with
  |none=>rw[hc] at hy;cases hy
  |some cs=>
   rw[hc] at hy
   unfold World.cells? at hc
   rw[if_pos (Nat.zero_le _)] at hc
   have hn:=mapM_some_length hc
   rw[List.length_range] at hn
   refine⟨cs,y,n,hn,fun k v hk=>?_,hy⟩
   have hkl:=(List.getElem?_eq_some_iff.mp hk).1
   have h2:=mapM_some_get hc k k (List.getElem?_range (by omega))
   rw[hk] at h2
   have ha:(Addr.add (Addr.add ⟨c,o,none⟩ (i*P.cellsOf e)) k)=⟨c,o+i*P.cellsOf e+k,none⟩:=by
    unfold Addr.add
    by_cases h3:i*P.cellsOf e=0<;>by_cases h4:k=0<;>simp[h3,h4]
   rw[ha] at h2
   refine⟨h2,List.mem_append_left _ ?_⟩
   unfold MemPlace.row
   rw[List.mem_map]
   refine⟨i*P.cellsOf e+k,?_,by simp[Nat.add_assoc]⟩
   rw[List.mem_range,show elems.length+rest.length=cap by omega]
   have:(i+1)*P.cellsOf e≤cap*P.cellsOf e:=Nat.mul_le_mul_right _ hi
   rw[Nat.add_mul,Nat.one_mul] at this
   omega
theorem A0 {α:Type}(f:α→List AV){E:Nat}{Q:α→Prop}{t e:TypeId}{fuel:Nat}{v:Value}{x:DataW H×List MemPlace}{ps:List MemPlace}(ht:P.underlying t=some (.slice e))(hE:P.cellsOf e=E)(hEp:0<E)
  (hdec:∀n cs y,DataW.trod enc P w 0 (fun _=>true) true n e cs=some y→∃a,cs.map uc=(f a).map some∧Q a)
  (hv:v= .slice none 0 0∨∃c o len cap,v= .slice (some ⟨c,o,none⟩) len cap∧c<w.heap.size)(h:DataW.trod enc P w 0 (fun _=>true) true fuel t [v]=some x)(hps:∀p∈x.2,p∈ps):
  ∃ (l:List α) (a:AV),(∀q∈l,Q q)∧VR (y8 w.heap.size (gP w ps)) a v∧(∃p n k b,a= .slc p n k b)∧
   ∀s:St,s.nx=w.heap.size→(∀b j v,gP w ps b j=some v→∃t n,s.h.get b=some (.cells t n)∧∀i,t.get i=gP w ps b i)→Sli s a E (l.map f)∧∀b,blk a=some b→b<s.nx:=by
 rcases hv with rfl|⟨c,o,len,cap,rfl,hc⟩
 ·refine⟨[], .slc none 0 0 true,fun q hq=>(by cases hq),by simp[VR],⟨_,_,_,_,rfl⟩,fun s _ _=>⟨⟨none,0,true,rfl,fun h=>absurd rfl h⟩,fun b hb=>by cases hb⟩⟩
 ·obtain⟨hl,_,hr⟩:=Fg ht h
  rw[hE] at hr
  have each:∀i,i<cap→∃a:α,Q a∧(f a).length=E∧∀k u,(f a)[k]? =some u→gP w ps c (o+i*E+k)=some u:=fun i hi=>by
   obtain⟨cs,y,n,h1,h2,h3⟩:=hr i hi
   obtain⟨a,h4,h5⟩:=hdec n cs y h3
   have hlen:cs.length=(f a).length:=by simpa using congrArg List.length h4
   refine⟨a,h5,by omega,fun k u hk=>?_⟩
   have h6:(cs.map uc)[k]? =some (some u):=by rw[h4,List.getElem?_map,hk];rfl
   rw[List.getElem?_map] at h6
   cases hck:cs[k]? with
   |none=>rw[hck] at h6;cases h6
   |some cv=>
    rw[hck] at h6
    simp only[Option.map_some,Option.some.injEq] at h6
    obtain⟨g1,g2⟩:=h2 k cv hck
    unfold gP
    rw[if_pos (hps _ g2),g1]
    exact h6
  have lst:∀m,m≤cap→∃l:List α,l.length=m∧(∀q∈l,Q q)∧∀i a,l[i]? =some a→(f a).length=E∧∀k u,(f a)[k]? =some u→gP w ps c (o+i*E+k)=some u:=by
   intro m
   induction m with
   |zero=>exact fun _=>⟨[],rfl,fun q hq=>(by cases hq),fun i a h=>by simp at h⟩
   |succ m ih=>
    intro hm
    obtain⟨l,g1,g2,g3⟩:=ih (by omega)
    obtain⟨a,k1,k2,k3⟩:=each m (by omega)
    refine⟨l++[a],by simp[g1],fun q hq=>?_,fun i b hb=>?_⟩
    ·rcases List.mem_append.mp hq with h|h
     ·exact g2 q h
     ·rw[List.mem_singleton.mp h];exact k1
    ·by_cases hi:i<l.length
     ·rw[List.getElem?_append_left hi] at hb;exact g3 i b hb
     ·have hi2:=(List.getElem?_eq_some_iff.mp hb).1
      simp only[List.length_append,List.length_singleton] at hi2
      have:i=m:=by omega
      subst this
      rw[List.getElem?_append_right (by omega),g1] at hb
      simp at hb
      subst hb
      exact⟨k2,k3⟩
  obtain⟨l,g1,g2,g3⟩:=lst len hl
  refine⟨l, .slc (some (c,o,E)) len cap true,g2,?_,⟨_,_,_,_,rfl⟩,fun s hn hs=>⟨⟨some (c,o,E),cap,true,by rw[List.length_map,g1],fun hne=>?_⟩,fun b hb=>by
   simp only[blk,Option.some.injEq] at hb;omega⟩⟩
  ·simp only[VR]
   refine⟨c,_,o,cap,J1 hc,rfl,fun _=>(Nat.zero_add o).symm,hl,Nat.le_refl _,fun _=>rfl,fun j h1 h2=>?_⟩
   have hE0:0<E:=by
    rcases Nat.eq_zero_or_pos E with h|h
    ·subst h;simp at h2;omega
    ·exact h
   have hlt:(j- o)/E<cap:=(Nat.div_lt_iff_lt_mul hE0).mpr (by omega)
   obtain⟨a,_,k2,k3⟩:=each ((j- o)/E) hlt
   have hm:=Nat.mod_lt (j- o) hE0
   have:=k3 ((j- o) % E) _ (List.getElem?_eq_getElem (by omega))
   have e:o+(j- o)/E*E+(j- o) % E=j:=by
    have:=Nat.div_add_mod (j- o) E
    rw[Nat.mul_comm] at this
    omega
   rw[e] at this
   exact⟨_,this⟩
  ·have hl0:0<l.length:=by
    rcases l with _|⟨a,l⟩
    ·exact absurd rfl hne
    ·simp
   obtain⟨k2,k3⟩:=g3 0 l[0] (List.getElem?_eq_getElem hl0)
   have:=k3 0 _ (List.getElem?_eq_getElem (by omega))
   obtain⟨tr,n,h1,h2⟩:=hs c _ _ this
   refine⟨c,o,tr,n,rfl,by omega,h1,fun i r hr=>?_⟩
   rw[List.getElem?_map] at hr
   cases hli:l[i]? with
   |none=>rw[hli] at hr;cases hr
   |some a=>
    rw[hli] at hr
    simp only[Option.map_some,Option.some.injEq] at hr
    subst hr
    obtain⟨q2,q3⟩:=g3 i a hli
    exact aR.mpr ⟨q2,fun k u hk=>by rw[h2];exact q3 k u hk⟩
end
end Go.Am
end
