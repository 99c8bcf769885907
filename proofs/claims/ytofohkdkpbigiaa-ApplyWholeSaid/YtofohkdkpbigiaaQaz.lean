/-
  A part of the texts.
-/
import GoSem.Extern.SlicesOverlaps
import Derived.Test.YtofohkdkpbigiaaQay
section
namespace Go.Am
noncomputable def mS:List AV→St→Option CR
 |[.slc (some (b,o,es)) n c x, .slc (some (b',o',es')) n' c' x'],s=>match(!Nat.beq b b'&&vm s (.slc (some (b,o,es)) n c x))&& (Nat.blt 0 n&& (Nat.blt 0 es&&Nat.blt 0 es')) with
  |true=>match s.h.get b' with
   |some (.cells _ _)=>some (.ret (.bool false) s)
   | _=>none
  |false=>none
 | _,_=>none
section
variable {P:Program}{X:Ctx}
theorem G5 (hX:dU P X){f:FuncId}{ps rs:Array TypeId}(h:DT P f (Extern.SlicesOverlaps.overlaps ps rs)){t e:TypeId}{sz:Nat}(hp:ps[0]? =some t)(hu:X.und t=some (.slice e))(hs:X.size e=some sz):fK P f mS:=by
 intro args s r hr ι w cargs hv hH
 unfold mS at hr
 split at hr
 ·rename_i b o es n c x b' o' es' n' c' x'
  split at hr
  ·rename_i hc
   simp only[Bool.and_eq_true] at hc
   obtain⟨⟨h1,h2⟩,h3,h4,h5⟩:=hc
   have h5:=Nat.blt_eq.mp h5
   have h3:=Nat.blt_eq.mp h3
   have h4:=Nat.blt_eq.mp h4
   have hne:b≠b':=fun e=>by rw[e] at h1;simp at h1
   split at hr
   ·rename_i tb kb hb'
    cases hr
    obtain⟨ca,cb,rfl,ha,hb⟩:=hv.Qm
    simp only[VR] at ha hb
    obtain⟨cb1,d1,off1,m1,q1,rfl,_,p1,p2,_,p3⟩:=ha
    obtain⟨cb2,d2,off2,m2,q2,rfl,_,r1,r2,_,r3⟩:=hb
    simp only[vm] at h2
    cases hg:s.h.get b with
    |none=>rw[hg] at h2;cases h2
    |some ab=>
     rw[hg] at h2
     cases ab with
     |cells t1 k1=>
      simp only at h2
      have hk:=Nat.blt_eq.mp h2
      obtain⟨cs1,e1,fz1,w1,w2,_,w4⟩:=hH.br b cb1 d1 _ q1 hg
      obtain⟨cs2,e2,fz2,v1,v2,_,_⟩:=hH.br b' cb2 d2 _ q2 hb'
      have hcb:cb1≠cb2:=fun e=>hne (hH.inj b b' cb1 d1 d2 _ _ q1 (e▸q2) hg hb')
      have hm1:0<m1:=by omega
      have hpos:0<m1*es:=Nat.mul_pos hm1 h4
      obtain⟨g1,g2⟩:=w2 off1 (p3 _ (Nat.le_refl _) (by omega))
      have g3:=w4 hk
      have hf1:w.frozen? ⟨cb1,off1,none⟩=false:=by simp[World.frozen?,w1];omega
      have hf2:w.frozen? ⟨cb1,cs1.size,none⟩=false:=by simp[World.frozen?,w1];omega
      have hsz:cs1.size≠0:=by omega
      refine xT hH (cv:= .bool false) ?_ (by simp[VR])
      rw[h.run]
      have hbl:(cb1==cb2)=false:=by simpa using hcb
      have hun:=aL hX hu w
      have hsi:=cO hX hs w
      have hov:(Extern.SlicesOverlaps.overlaps ps rs #[.slice (some ⟨cb1,off1,none⟩) n m1, .slice (some ⟨cb2,off2,none⟩) n' m2]).run P w= .ok (.bool false) w:=by
       have e0:Extern.SlicesOverlaps.overlaps ps rs #[.slice (some ⟨cb1,off1,none⟩) n m1, .slice (some ⟨cb2,off2,none⟩) n' m2]=(do
        let some t:=ps[0]? |stuck "slices.overlaps: no parameter types"
        let .slice elem ←underlying t|stuck "slices.overlaps: slice type expected"
        let size ←sizeOf elem
        if n=0∨n'=0∨size=0 then pure (.bool false)
        else if(cb1 != cb2)&& (←frozen ⟨cb1,off1,none⟩)&& (←frozen ⟨cb2,off2,none⟩) then unsupported .addressObserved
        else do
         if cb1 != cb2 then do
          noView ⟨cb1,off1,none⟩;noView ⟨cb2,off2,none⟩
          if ←mayBeOne ⟨cb1,off1,none⟩ ⟨cb2,off2,none⟩ then return .bool ((←choose (.extern "sameAddr.stringBytes" 2))==1)
         pure (.bool (cb1==cb2&&off1<off2+n'*size&&off2<off1+n*size)):Sem Value):=rfl
       rw[e0]
       by_cases hz:n=0∨n'=0∨sz=0
       ·simp[hp,hun,hsi,hz]
       ·have hsz2:cs2.size≠0:=by
         have:0<m2*es':=Nat.mul_pos (by omega) h5
         have:=(v2 off2 (r3 _ (Nat.le_refl _) (by omega))).1
         omega
        obtain⟨k2,hk2⟩:∃k,cs2.size=k+1:=⟨cs2.size- 1,by omega⟩
        simp[hp,hun,hsi,hz,hcb,hbl,hf1,hf2,noView,viewAt,World.shape?,w1,v1,mayBeOne,stringish,hsz,hk2]
      rw[hov];simp
     | _=>cases h2
   ·cases hr
  ·cases hr
 ·cases hr
end
section
variable {X:Ctx}
theorem zZ {t e:TypeId}{a:Option (Nat×Nat×Nat)}{n c:Nat}(hu:X.und t=some (.slice e)):AE X t (.slc a n c true)=some (.int .i64 (c:Int)):=by
 simp only[AE,hu]
theorem kp {t elem es:Nat}{s:St}{b off n c:Nat}{x:Bool}{k:IntKind}{l:Int}(hu:X.und t=some (.slice elem))(hs:X.size elem=some es)(h0:0≤l)(hn:l≤(n:Int))(hc:l<(c:Int)):cP X s t (.slc (some (b,off,es)) n c x) (some (.int k l)) none none=some (.slc (some (b,off+l.toNat*es,es)) (n- l.toNat) (c- l.toNat) x):=by
 by_cases hl:l=0
 ·subst hl
  have h1:=mf (k:=k) (y:=n) (Int.le_refl 0) hn
  simp only[cP,hu,qO,oQ,tZ,ob,uh,h1,hs,mW,AP,show Nat.beq es es=true from Nat.beq_refl es,show Nat.beq (Int.toNat 0) 0=true from rfl,show Int.toNat 0=0 from rfl,Nat.zero_mul,Nat.add_zero,Nat.sub_zero]
 ·exact y7 hu hs (by omega) hn hc
theorem Hr {t elem es:Nat}{s:St}{b off n:Nat}{k:IntKind}(hu:X.und t=some (.slice elem))(hs:X.size elem=some es)(c:Nat)(hc:n≤c):∃v,cP X s t (.slc (some (b,off,es)) n c true) (some (.int k (n:Int))) none none=some v:=by
 have h1:=mf (k:=k) (i:=(n:Int)) (y:=n) (Int.natCast_nonneg n) (Int.le_refl _)
 rw[Int.toNat_natCast] at h1
 simp only[cP,hu,qO,oQ,tZ,ob,uh,h1,hs,mW,AP,show Nat.beq es es=true from Nat.beq_refl es]
 cases Nat.beq n 0<;>cases Nat.beq c n<;>exact⟨_,rfl⟩
theorem PI {t u e es len cap k b off m:Nat}{ik:IntKind}{z:AV}{s:St}{c:Tr AV}{old:List AV}(hi:X.und u=some (.int ik))(hu:X.und t=some (.slice e))(he:X.elem e=some es)(hz:X.zero e=some z)(hzo:aX z.cells=true)(hzl:z.cells.length=es)
  (hc:cap<len+k)(hl:len+k≤1000000)(hb:s.h.get b=some (.cells c m))(ho:ldL c off (len*es)=some old):
  ∃t',j8 X t u (.slc (some (b,off,es)) len cap true) (.int .i64 (k:Int)) s=some (.val (.slc (some (s.nx,0,es)) (len+k) (len+k) false) {s with h:=s.h.put s.nx (.cells t' ((len+k)*es+cD m)),nx:=s.nx+1})∧ldL t' 0 (len*es)=some old∧∀j,j<(len+k)*es→∃u,t'.get j=some u:=by
 have hol:=eT ho
 obtain⟨t',e1,e2,e3⟩:∃t',ka off len es m c (lR z.cells k)=some t'∧ldL t' 0 (len*es)=some old∧∀j,j<(len+k)*es→∃u,t'.get j=some u:=by
  have hrl:(lR z.cells k).length=k*es:=by rw[fi,hzl]
  unfold ka
  split
  ·rename_i hq
   rw[Bool.and_eq_true] at hq
   have q1:=Nat.beq_eq.mp hq.1
   subst q1
   rw[ho]
   refine⟨_,rfl,aR.mpr ⟨hol,fun i u hi=>?_⟩,fun j hj=>?_⟩
   ·have:=(List.getElem?_eq_some_iff.mp hi).1
    rw[fm,if_neg (by omega)]
    exact(aR.mp ho).2 i u hi
   ·rw[fm]
    by_cases hj2:len*es≤j
    ·rw[if_pos ⟨hj2,by rw[hrl,←Nat.add_mul];exact hj⟩]
     exact⟨_,List.getElem?_eq_getElem (by rw[hrl];rw[Nat.add_mul] at hj;omega)⟩
    ·rw[if_neg (by omega)]
     have hj3:j<old.length:=by omega
     have:=(aR.mp ho).2 j old[j] (List.getElem?_eq_getElem hj3)
     rw[Nat.zero_add] at this
     exact⟨_,this⟩
  ·rw[ho]
   refine⟨_,rfl,?_,fun j hj=>?_⟩
   ·exact jK (by rw[List.drop_zero,List.take_left' hol]) hol
   ·rw[dF]
    exact⟨_,List.getElem?_eq_getElem (by rw[List.length_append,hol,hrl,←Nat.add_mul];exact hj)⟩
 refine⟨t',?_,e2,e3⟩
 have h1:(Nat.blt cap (len+k)&& (Nat.ble (len+k) 1000000&& (aX z.cells&&Nat.beq z.cells.length es)))=true:=by
  rw[Nat.blt_eq.mpr hc,Nat.ble_eq.mpr hl,hzo,hzl,show Nat.beq es es=true from Nat.beq_refl es];rfl
 show(match X.und u with
  |some (.slice _)=>cN X t (.slc (some (b,off,es)) len cap true) (.int .i64 (.ofNat k)) s
  |some .string=>cN X t (.slc (some (b,off,es)) len cap true) (.int .i64 (.ofNat k)) s
  |some (.int _)=>rM X t (.slc (some (b,off,es)) len cap true) (.int .i64 (.ofNat k)) s
  | _=>none)=_
 simp only[hi,rM,hu,he,hz,h1,kW,show Nat.beq es es=true from Nat.beq_refl es,fv hb,e1,qC,iF]
theorem mM {t e es n n' c' b off m:Nat}{x x':Bool}{c:Nat}{b' off':Nat}{s:St}{d d':Tr AV}{new:List AV}(hu:X.und t=some (.slice e))(hs:X.size e=some es)(hy:aZ s es (.slc (some (b',off',es)) (min n' n) (min n' n) false)=some (min n' n,new))(h0:0<min n' n)(ho:aX new=true)(hb:s.h.get b=some (.cells d m))(hst:stL new off d=some d'):
  jG X t (.slc (some (b,off,es)) n c x) (.slc (some (b',off',es)) n' c' x') s=some (.val (.int .i64 ((min n' n:Nat):Int)) {s with h:=s.h.put b (.cells d' m)}):=by
 have hz:Nat.beq (min n' n) 0=false:=A6 (by omega)
 simp only[jG,hu,hs,CG,lenOf,cutAt,hy,wR,hz,ho,fv hb,hst,zd]
theorem vu {s:St}{t:Tr AV}{b off es n c m:Nat}{x:Bool}{l:List AV}(h:s.h.get b=some (.cells t m))(hl:ldL t off (n*es)=some l)(hn:0<n):aZ s es (.slc (some (b,off,es)) n c x)=some (n,l):=by
 simp only[aZ,A6 (show n≠0 by omega),fv h,hl]
end
theorem vX {l:List AV}{off:Nat}{c c':Tr AV}(h:stL l off c=some c'):ldL c' off l.length=some l:=
 aR.mpr ⟨rfl,fun i u hi=>by
  have:=(List.getElem?_eq_some_iff.mp hi).1
  rw[lB h,if_pos ⟨by omega,by omega⟩,Nat.add_sub_cancel_left];exact hi⟩
theorem oe {l m:List AV}{off a n:Nat}{c c':Tr AV}(h:stL l off c=some c')(hd:a+n≤off∨off+l.length≤a)(hl:ldL c a n=some m):ldL c' a n=some m:=by
 obtain⟨h1,h2⟩:=aR.mp hl
 refine aR.mpr ⟨h1,fun i u hi=>?_⟩
 have:=(List.getElem?_eq_some_iff.mp hi).1
 rw[lB h,if_neg (by omega)]
 exact h2 i u hi
theorem B4 {l:List AV}{off:Nat}{c c':Tr AV}(h:stL l off c=some c'){j:Nat}{u:AV}(hj:c.get j=some u):∃u,c'.get j=some u:=by
 rw[lB h]
 split
 ·rename_i hc
  exact⟨_,List.getElem?_eq_getElem (by omega)⟩
 ·exact⟨u,hj⟩
theorem xa {c:Tr AV}{off n:Nat}{l:List AV}(h:ldL c off n=some l){k:Nat}(hk:k≤n):ldL c off k=some (l.take k):=by
 obtain⟨h1,h2⟩:=aR.mp h
 refine aR.mpr ⟨by rw[List.length_take];omega,fun i u hi=>?_⟩
 rw[List.getElem?_take] at hi
 split at hi
 ·exact h2 i u hi
 ·cases hi
theorem sN {c:Tr AV}{off n:Nat}{l:List AV}(h:ldL c off n=some l){k:Nat}(hk:k≤n):ldL c (off+k) (n- k)=some (l.drop k):=by
 obtain⟨h1,h2⟩:=aR.mp h
 refine aR.mpr ⟨by rw[List.length_drop];omega,fun i u hi=>?_⟩
 rw[List.getElem?_drop] at hi
 rw[Nat.add_assoc]
 exact h2 _ u hi
theorem oJ {l:List AV}(h:aX l=true):(∀k,aX (l.take k)=true)∧∀k,aX (l.drop k)=true:=by
 have key:∀ (l m:List AV),aX (l++m)=true→aX l=true∧aX m=true:=by
  intro l
  induction l with
  |nil=>intro m h;exact⟨rfl,h⟩
  |cons a l ih=>
   intro m h
   simp only[List.cons_append,aX,Bool.and_eq_true] at h ⊢
   exact⟨⟨h.1,(ih m h.2).1⟩,(ih m h.2).2⟩
 exact⟨fun k=>(key (l.take k) (l.drop k) (by rw[List.take_append_drop];exact h)).1,fun k=>(key (l.take k) (l.drop k) (by rw[List.take_append_drop];exact h)).2⟩
structure oY (es:Nat)(s:St)(b o n k m i c N ky:Nat)(t ty:Tr AV)(old new:List AV):Prop where
 hb:s.h.get b=some (.cells t N)
 hc:s.h.get c=some (.cells ty ky)
 ne:b≠c
 ko:ldL t o (n*es)=some old
 kn:ldL ty 0 (k*es)=some new
 oo:aX old=true
 on:aX new=true
 full:n+k≤m→∀j,j<(n+k)*es→∃u,t.get (o+j)=some u
 k0:0<k
 n0:0<n
 i0:i≤n
 nm:n≤m
 le:n+k≤1000000
 pl:ky<iM
 lb:b<s.nx
 lc:c<s.nx
def vI (es b o n k m N:Nat)(res:List AV)(s1:St):CR→Prop:=fun r=>∃v s' t',r= .ret v s'∧Mod (fun d=>d=b) s1 s'∧s'.sh=s1.sh∧
 ((n+k≤m∧v= .slc (some (b,o,es)) (n+k) m true∧s'.nx=s1.nx∧s'.h.get b=some (.cells t' N)∧ldL t' o ((n+k)*es)=some res)∨
  (v= .slc (some (s1.nx,0,es)) (n+k) (n+k) false∧s'.nx=s1.nx+1∧s'.h.get s1.nx=some (.cells t' ((n+k)*es+cD N))∧ldL t' 0 ((n+k)*es)=some res))
section
variable {es:Nat}{s:St}{b o n k m i c N ky:Nat}{t ty:Tr AV}{old new:List AV}
theorem three {T:Tr AV}{o a k d:Nat}{A K D:List AV}(h1:ldL T o a=some A)(h2:ldL T (o+a) k=some K)(h3:ldL T (o+a+k) d=some D):ldL T o (a+k+d)=some (A++K++D):=
 iE (iE h1 h2) (by rw[←Nat.add_assoc];exact h3)
theorem oY.room (h:oY es s b o n k m i c N ky t ty old new)(hm:n+k≤m):∃t1 t2,stL (old.drop (i*es)) (o+(i+k)*es) t=some t1∧stL new (o+i*es) t1=some t2∧ldL t2 o ((n+k)*es)=some (old.take (i*es)++new++old.drop (i*es)):=by
 have hol:=eT h.ko
 have hnl:=eT h.kn
 have hi:=h.i0
 have hin:i*es+(n- i)*es=n*es:=by rw[←Nat.add_mul];congr 1;omega
 have hnk:(n+k)*es=i*es+k*es+(n- i)*es:=by rw[←Nat.add_mul,←Nat.add_mul];congr 1;omega
 have hik:(i+k)*es=i*es+k*es:=Nat.add_mul _ _ _
 have hfull:=h.full hm
 rw[hnk] at hfull ⊢
 rw[hik]
 have hdl:(old.drop (i*es)).length=(n- i)*es:=by rw[List.length_drop];omega
 obtain⟨t1,e1⟩:=ia (c:=t) (l:=old.drop (i*es)) (off:=o+(i*es+k*es)) fun j hj=>by
  obtain⟨u,hu⟩:=hfull (i*es+k*es+j) (by omega)
  exact⟨u,by rw[←hu];congr 1;omega⟩
 obtain⟨t2,e2⟩:=ia (c:=t1) (l:=new) (off:=o+i*es) fun j hj=>by
  obtain⟨u,hu⟩:=hfull (i*es+j) (by omega)
  exact B4 e1 (by rw[Nat.add_assoc];exact hu)
 refine⟨t1,t2,e1,e2,three ?_ ?_ ?_⟩
 ·exact oe e2 (by omega) (oe e1 (by omega) (xa h.ko (by omega)))
 ·rw[←hnl];exact vX e2
 ·refine oe e2 (by omega) ?_
  rw[←hdl,Nat.add_assoc];exact vX e1
theorem oY.grow (h:oY es s b o n k m i c N ky t ty old new){T:Tr AV}(hT:ldL T 0 (i*es)=some (old.take (i*es)))(hF:∀j,j<(n+k)*es→∃u,T.get j=some u):∃t1 t2,stL new (0+i*es) T=some t1∧stL (old.drop (i*es)) (0+(i+k)*es) t1=some t2∧ldL t2 0 ((n+k)*es)=some (old.take (i*es)++new++old.drop (i*es)):=by
 have hol:=eT h.ko
 have hnl:=eT h.kn
 have hi:=h.i0
 have hin:i*es+(n- i)*es=n*es:=by rw[←Nat.add_mul];congr 1;omega
 have hnk:(n+k)*es=i*es+k*es+(n- i)*es:=by rw[←Nat.add_mul,←Nat.add_mul];congr 1;omega
 have hik:(i+k)*es=i*es+k*es:=Nat.add_mul _ _ _
 rw[hnk] at hF ⊢
 rw[hik]
 have hdl:(old.drop (i*es)).length=(n- i)*es:=by rw[List.length_drop];omega
 obtain⟨t1,e1⟩:=ia (c:=T) (l:=new) (off:=0+i*es) fun j hj=>hF _ (by omega)
 obtain⟨t2,e2⟩:=ia (c:=t1) (l:=old.drop (i*es)) (off:=0+(i*es+k*es)) fun j hj=>by
  obtain⟨u,hu⟩:=hF (0+(i*es+k*es)+j) (by omega)
  exact B4 e1 hu
 refine⟨t1,t2,e1,e2,three ?_ ?_ ?_⟩
 ·exact oe e2 (by omega) (oe e1 (by omega) hT)
 ·refine oe e2 (by omega) ?_
  rw[←hnl];exact vX e1
 ·rw[←hdl,Nat.add_assoc];exact vX e2
theorem oY.Qa (h:oY es s b o n k m n c N ky t ty old new)(hm:n+k≤m):∃t1,stL new (o+n*es) t=some t1∧ldL t1 o ((n+k)*es)=some (old.take (n*es)++new++old.drop (n*es)):=by
 have hol:=eT h.ko
 have hnl:=eT h.kn
 have hfull:=h.full hm
 rw[Nat.add_mul] at hfull ⊢
 obtain⟨t1,e1⟩:=ia (c:=t) (l:=new) (off:=o+n*es) fun j hj=>by
  obtain⟨u,hu⟩:=hfull (n*es+j) (by omega)
  exact⟨u,by rw[Nat.add_assoc];exact hu⟩
 refine⟨t1,e1,?_⟩
 rw[List.take_of_length_le (by omega),List.drop_of_length_le (by omega),List.append_nil]
 exact iE (oe e1 (by omega) h.ko) (by rw[←hnl];exact vX e1)
theorem oY.Gi (h:oY es s b o n k m i c N ky t ty old new){s':St}(hs:s'.h.get c=some (.cells ty ky)){q r:Nat}{x:Bool}(hq:q=k):aZ s' es (.slc (some (c,0,es)) q r x)=some (q,new):=by
 subst hq
 exact vu hs h.kn h.k0
end
end Go.Am
end
section
namespace Go.Proofs.Ytofohkdkpbigiaa
open Go.Am
set_option maxRecDepth 10000
set_option maxHeartbeats 1000000
set_option linter.unusedSimpArgs false
section
variable {O:bj}
theorem zB:X.fns.get 89=some Try.f89:=by kernel_rfl
theorem Fa (hO:O 89=none)(hV:O 95=some mS){s:St}{b o n k m i c N ky:Nat}{t ty:Tr AV}{old new:List AV}{xy:Bool}{cy:Nat}(h:oY 2 s b o n k m i c N ky t ty old new)(hi:i<n)(hm:n+k≤m):
  Ca X O (.fn 89) [.slc (some (b,o,2)) n m true, .int .i64 (i:Int), .slc (some (c,0,2)) k cy xy] s (vI 2 b o n k m N (old.take (i*2)++new++old.drop (i*2)) s):=by
 obtain⟨t1,t2,e1,e2,e3⟩:=h.room hm
 have hk0:=h.k0
 have hle:=h.le
 have hnm:=h.nm
 have hne:=h.ne
 have hD:ldL t (o+i*2) ((n- i)*2)=some (old.drop (i*2)):=by
  have:=sN h.ko (k:=i*2) (Nat.mul_le_mul_right _ (by omega))
  rw[←Nat.sub_mul] at this;exact this
 have hoD:=(oJ h.oo).2 (i*2)
 have hon:=h.on
 let s1:St:={s with h:=s.h.put b (.cells t1 N)}
 let s2:St:={s1 with h:=s1.h.put b (.cells t2 N)}
 have c1:jG X 52 (.slc (some (b,o+(i+k)*2,2)) (n+k- (i+k)) (m- (i+k)) true) (.slc (some (b,o+i*2,2)) (n+k- i) (m- i) true) s=some (.val (.int .i64 ((min (n+k- i) (n+k- (i+k)):Nat):Int)) s1):=
  mM bE bW (by rw[show min (n+k- i) (n+k- (i+k))=n- i by omega];exact vu h.hb hD (by omega)) (by omega) hoD h.hb e1
 have hs1c:s1.h.get c=some (.cells ty ky):=(aT (Ne.symm hne)).trans h.hc
 have c2:jG X 52 (.slc (some (b,o+i*2,2)) (n+k- i) (m- i) true) (.slc (some (c,0,2)) k cy xy) s1=some (.val (.int .i64 ((min k (n+k- i):Nat):Int)) s2):=
  mM bE bW (h.Gi hs1c (by omega)) (by omega) hon bm e2
 have hov:mS [.slc (some (c,0,2)) k cy xy, .slc (some (b,o+(i+k)*2,2)) (n+k- (i+k)) (m- (i+k)) true] s=some (.ret (.bool false) s):=by
  have h1:Nat.beq c b=false:=by
   cases hq:Nat.beq c b with
   |false=>rfl
   |true=>exact absurd (Nat.beq_eq.mp hq).symm hne
  have h2:vm s (.slc (some (c,0,2)) k cy xy)=true:=by simp only[vm,h.hc,Nat.blt_eq.mpr h.pl]
  simp only[mS,h1,h2,h.hb,Nat.blt_eq.mpr hk0,Bool.not_false,Bool.true_and,show Nat.blt 0 2=true from rfl,Bool.and_self]
 have hii:(i:Int)+(k:Int)=((i+k:Nat):Int):=by omega
 have hnn:(n:Int)+(k:Int)=((n+k:Nat):Int):=by omega
 have sl0:=kp (X:=X) (s:=s) (b:=b) (off:=o) (n:=n) (c:=m) (x:=true) (k:= .i64) (l:=(i:Int)) bE bW (by omega) (by omega) (by omega)
 have sl1:=Bk (X:=X) (s:=s) (b:=b) (off:=o) (n:=n) (c:=m) (x:=true) (k:= .i64) (h:=((n+k:Nat):Int)) bE bW (by omega) (by omega)
 have sl2:=fun s:St=>kp (X:=X) (s:=s) (b:=b) (off:=o) (n:=n+k) (c:=m) (x:=true) (k:= .i64) (l:=((i+k:Nat):Int)) bE bW (by omega) (by omega) (by omega)
 have sl3:=fun s:St=>kp (X:=X) (s:=s) (b:=b) (off:=o) (n:=n+k) (c:=m) (x:=true) (k:= .i64) (l:=(i:Int)) bE bW (by omega) (by omega) (by omega)
 simp only[Int.toNat_natCast] at sl0 sl1 sl2 sl3
 have dk:decide ((k:Int)=0)=false:=by simp;omega
 have di:decide ((i:Int)=(n:Int))=false:=by simp;omega
 have dm:decide ((m:Int)<((n+k:Nat):Int))=false:=by simp;omega
 refine bb hO zB rfl ?_
 unfold aD aD aD aD
 repeat(first|refine uS ?_ |refine aa rfl ?_ |refine ad (by simp(disch:=omega) only[uB,uT,sl0,dk];exact rfl) ?_)
 refine uJ [0,1,2,7,16] ?_
 refine ae rfl rfl (fun hc=>?_) (fun hc=>?_)
 ·cases hc
 ·repeat(first|refine uS ?_ |refine aa rfl ?_ |refine ad (by simp(disch:=omega) only[uB,uT,di];exact rfl) ?_)
  refine uJ [0,1,2,7,8,22] ?_
  refine ae rfl rfl (fun hc=>?_) (fun hc=>?_)
  ·cases hc
  ·repeat(first|refine uS ?_ |refine aa rfl ?_ |refine ad (by simp(disch:=omega) only[uB,uT,hnn,zZ bE,dm];exact rfl) ?_)
   refine uJ [0,1,2,7,8,31] ?_
   refine ae rfl rfl (fun hc=>?_) (fun hc=>?_)
   ·cases hc
   ·repeat(first|refine uS ?_ |refine aa rfl ?_ |refine ad (by simp(disch:=omega) only[uB,uT,hnn,sl1,hii,sl2];exact rfl) ?_)
    refine aj (ku (Q:=fun z=>z= .ret (.bool false) s) hV hov rfl) ?_ ?_
    ·rintro v s' e
     cases e
     refine uL ?_
     refine uH ?_
     refine uJ [0,1,2,7,8,68] ?_
     refine ae rfl rfl (fun hc=>?_) (fun hc=>?_)
     ·refine uH ?_
      refine aU [(0,none),(1,none),(2,none),(3,none),(4,none),(5,none),(6,none),(7,none),(8,some [false,true,true,false,true,true,true,true])] (by kernel_rfl) (by kernel_rfl) (by simp(disch:=omega) only[uB,uT,Nat.reduceEqDiff,↓reduceIte,uD,mask,aC,aB,hii,sl2,sl3,c1];exact rfl) ?_
      repeat(first|refine uS ?_ |refine aa rfl ?_ |refine ad (by simp(disch:=omega) only[uB,uT,sl3,c2];exact rfl) ?_)
      refine ai rfl ?_
      refine⟨_,s2,t2,rfl,((Mod.refl (fun d=>d=b) s).put (.cells t1 N) (.inr rfl) h.lb).put (.cells t2 N) (.inr rfl) h.lb,rfl, .inl ⟨hm,rfl,rfl,bm,e3⟩⟩
     ·cases hc
    ·rintro v s' e
     cases e
theorem Fq (hO:O 89=none){s:St}{b o n k m i c N ky:Nat}{t ty:Tr AV}{old new:List AV}{xy:Bool}{cy:Nat}(h:oY 2 s b o n k m i c N ky t ty old new)(hi:i<n)(hm:m<n+k):
  Ca X O (.fn 89) [.slc (some (b,o,2)) n m true, .int .i64 (i:Int), .slc (some (c,0,2)) k cy xy] s (vI 2 b o n k m N (old.take (i*2)++new++old.drop (i*2)) s):=by
 have hk0:=h.k0
 have hle:=h.le
 have hnm:=h.nm
 have hne:=h.ne
 have hD:ldL t (o+i*2) ((n- i)*2)=some (old.drop (i*2)):=by
  have:=sN h.ko (k:=i*2) (Nat.mul_le_mul_right _ (by omega))
  rw[←Nat.sub_mul] at this;exact this
 have hoD:=(oJ h.oo).2 (i*2)
 have hon:=h.on
 have hcount:i+(n+k- i)=n+k:=by omega
 obtain⟨T,ez,hT,hF⟩:=PI (X:=X) (t:=52) (u:=3) (len:=i) (cap:=m) (k:=n+k- i) aN bE mO lC rfl rfl (by omega) (by omega) h.hb (xa h.ko (k:=i*2) (Nat.mul_le_mul_right _ (by omega)))
 rw[hcount] at ez hF
 obtain⟨t1,t2,e1,e2,e3⟩:=h.grow hT hF
 let s1:St:={s with h:=s.h.put s.nx (.cells T ((n+k)*2+cD N)),nx:=s.nx+1}
 let s2:St:={s1 with h:=s1.h.put s.nx (.cells t1 ((n+k)*2+cD N))}
 let s3:St:={s2 with h:=s2.h.put s.nx (.cells t2 ((n+k)*2+cD N))}
 replace ez:j8 X 52 3 (.slc (some (b,o,2)) i m true) (.int .i64 ((n+k- i:Nat):Int)) s=some (.val (.slc (some (s.nx,0,2)) (n+k) (n+k) false) s1):=ez
 have lb:=h.lb
 have lc:=h.lc
 have hs1c:s1.h.get c=some (.cells ty ky):=(aT (by omega)).trans h.hc
 have hs2b:s2.h.get b=some (.cells t N):=(aT (by omega)).trans ((aT (by omega)).trans h.hb)
 have c1:jG X 52 (.slc (some (s.nx,0+i*2,2)) (n+k- i) (n+k- i) false) (.slc (some (c,0,2)) k cy xy) s1=some (.val (.int .i64 ((min k (n+k- i):Nat):Int)) s2):=
  mM bE bW (h.Gi hs1c (by omega)) (by omega) hon bm e1
 have c2:jG X 52 (.slc (some (s.nx,0+(i+k)*2,2)) (n+k- (i+k)) (n+k- (i+k)) false) (.slc (some (b,o+i*2,2)) (n- i) (m- i) true) s2=some (.val (.int .i64 ((min (n- i) (n+k- (i+k)):Nat):Int)) s3):=
  mM bE bW (by rw[show min (n- i) (n+k- (i+k))=n- i by omega];exact vu hs2b hD (by omega)) (by omega) hoD bm e2
 have hii:(i:Int)+(k:Int)=((i+k:Nat):Int):=by omega
 have hnn:(n:Int)+(k:Int)=((n+k:Nat):Int):=by omega
 have hni:((n+k:Nat):Int)- (i:Int)=((n+k- i:Nat):Int):=by omega
 have sl0:=fun s:St=>kp (X:=X) (s:=s) (b:=b) (off:=o) (n:=n) (c:=m) (x:=true) (k:= .i64) (l:=(i:Int)) bE bW (by omega) (by omega) (by omega)
 have sl1:=Bk (X:=X) (s:=s) (b:=b) (off:=o) (n:=n) (c:=m) (x:=true) (k:= .i64) (h:=(i:Int)) bE bW (by omega) (by omega)
 have sl2:=fun s':St=>kp (X:=X) (s:=s') (b:=s.nx) (off:=0) (n:=n+k) (c:=n+k) (x:=false) (k:= .i64) (l:=(i:Int)) bE bW (by omega) (by omega) (by omega)
 have sl3:=fun s':St=>kp (X:=X) (s:=s') (b:=s.nx) (off:=0) (n:=n+k) (c:=n+k) (x:=false) (k:= .i64) (l:=((i+k:Nat):Int)) bE bW (by omega) (by omega) (by omega)
 simp only[Int.toNat_natCast] at sl0 sl1 sl2 sl3
 have dk:decide ((k:Int)=0)=false:=by simp;omega
 have di:decide ((i:Int)=(n:Int))=false:=by simp;omega
 have dm:decide ((m:Int)<((n+k:Nat):Int))=true:=by simp;omega
 refine bb hO zB rfl ?_
 unfold aD aD aD aD
 repeat(first|refine uS ?_ |refine aa rfl ?_ |refine ad (by simp(disch:=omega) only[uB,uT,sl0,dk];exact rfl) ?_)
 refine uJ [0,1,2,7,16] ?_
 refine ae rfl rfl (fun hc=>?_) (fun hc=>?_)
 ·cases hc
 ·repeat(first|refine uS ?_ |refine aa rfl ?_ |refine ad (by simp(disch:=omega) only[uB,uT,di];exact rfl) ?_)
  refine uJ [0,1,2,7,8,22] ?_
  refine ae rfl rfl (fun hc=>?_) (fun hc=>?_)
  ·cases hc
  ·repeat(first|refine uS ?_ |refine aa rfl ?_ |refine ad (by simp(disch:=omega) only[uB,uT,hnn,zZ bE,dm];exact rfl) ?_)
   refine uJ [0,1,2,7,8,31] ?_
   refine ae rfl rfl (fun hc=>?_) (fun hc=>?_)
   ·(repeat(first|refine uS ?_ |refine aa rfl ?_));refine ad (by simp(disch:=omega) only[uB,uT,hnn,hni,sl1,ez];exact rfl) ?_;(repeat(first|refine uS ?_ |refine aa rfl ?_))
    (repeat(first|refine uS ?_ |refine aa rfl ?_));refine ad (by simp(disch:=omega) only[uB,uT,sl2,c1];exact rfl) ?_;(repeat(first|refine uS ?_ |refine aa rfl ?_))
    refine aU [(0,none),(1,none),(2,none),(3,none),(4,none),(5,none),(6,none),(7,none),(8,some [false,true,true,false,true,true,true,true])] (by kernel_rfl) (by kernel_rfl) (by simp(disch:=omega) only[uB,uT,Nat.reduceEqDiff,↓reduceIte,uD,mask,aC,aB,hii,sl3,sl0,c2];exact rfl) ?_
    refine uG ?_
    refine ai rfl ?_
    refine⟨_,s3,t2,rfl,(((Mod.refl (fun d=>d=b) s).new (.cells T ((n+k)*2+cD N))).put (.cells t1 ((n+k)*2+cD N)) (.inl (Nat.le_refl _)) (Nat.lt_succ_self _)).put (.cells t2 ((n+k)*2+cD N)) (.inl (Nat.le_refl _)) (Nat.lt_succ_self _),rfl, .inr ⟨rfl,rfl,bm,e3⟩⟩
   ·cases hc
theorem I1 (hO:O 89=none){s:St}{b o n k m c N ky:Nat}{t ty:Tr AV}{old new:List AV}{xy:Bool}{cy:Nat}(h:oY 2 s b o n k m n c N ky t ty old new):
  Ca X O (.fn 89) [.slc (some (b,o,2)) n m true, .int .i64 (n:Int), .slc (some (c,0,2)) k cy xy] s (vI 2 b o n k m N (old.take (n*2)++new++old.drop (n*2)) s):=by
 have hk0:=h.k0
 have hle:=h.le
 have hnm:=h.nm
 have hne:=h.ne
 have hon:=h.on
 have hsrc:=h.Gi (q:=k) (r:=cy) (x:=xy) h.hc rfl
 have hk:Nat.beq k 0=false:=A6 (by omega)
 obtain⟨v0,sl0⟩:=Hr (X:=X) (s:=s) (b:=b) (off:=o) (n:=n) (k:= .i64) bE bW m hnm
 have dk:decide ((k:Int)=0)=false:=by simp;omega
 have di:decide ((n:Int)=(n:Int))=true:=by simp
 obtain⟨v,s',ea,hq⟩:∃v s',cN X 52 (.slc (some (b,o,2)) n m true) (.slc (some (c,0,2)) k cy xy) s=some (.val v s')∧vI 2 b o n k m N (old.take (n*2)++new++old.drop (n*2)) s (.ret v s'):=by
  by_cases hm:n+k≤m
  ·obtain⟨t1,e1,e3⟩:=h.Qa hm
   have h1:Nat.ble (n+k) m=true:=Nat.ble_eq.mpr hm
   refine⟨.slc (some (b,o,2)) (n+k) m true,{s with h:=s.h.put b (.cells t1 N)},?_,_,_,t1,rfl,(Mod.refl (fun d=>d=b) s).put (.cells t1 N) (.inr rfl) h.lb,rfl, .inl ⟨hm,rfl,rfl,bm,e3⟩⟩
   simp only[cN,bE,mO,hsrc,rS,hk,hon,h1,uW,fv h.hb,e1,zd]
  ·have h1:Nat.ble (n+k) m=false:=by
    cases hq:Nat.ble (n+k) m with
    |false=>rfl
    |true=>exact absurd (Nat.ble_eq.mp hq) hm
   have h2:Nat.ble (n+k) 1000000=true:=Nat.ble_eq.mpr hle
   have hol:=eT h.ko
   have hnl:=eT h.kn
   have hres:old.take (n*2)++new++old.drop (n*2)=old++new:=by rw[List.take_of_length_le (by omega),List.drop_of_length_le (by omega),List.append_nil]
   obtain⟨T,g1,g2⟩:∃T,ka o n 2 N t new=some T∧ldL T 0 ((n+k)*2)=some (old++new):=by
    unfold ka
    split
    ·rename_i hq
     rw[Bool.and_eq_true] at hq
     have q1:=Nat.beq_eq.mp hq.1
     have hko:=h.ko
     rw[q1] at hko
     rw[hko]
     refine⟨_,rfl,?_⟩
     rw[Nat.add_mul]
     refine iE (aR.mpr ⟨hol,fun i u hi=>?_⟩) (aR.mpr ⟨hnl,fun i u hi=>?_⟩)
     ·have:=(List.getElem?_eq_some_iff.mp hi).1
      rw[fm,if_neg (by omega)]
      exact(aR.mp hko).2 i u hi
     ·have:=(List.getElem?_eq_some_iff.mp hi).1
      rw[fm,if_pos (by omega),show 0+n*2+i- n*2=i by omega]
      exact hi
    ·rw[h.ko]
     exact⟨_,rfl,jK (by rw[List.drop_zero,List.take_of_length_le (by rw[List.length_append];omega)]) (by rw[List.length_append];omega)⟩
   refine⟨.slc (some (s.nx,0,2)) (n+k) (n+k) false,{s with h:=s.h.put s.nx (.cells T ((n+k)*2+cD N)),nx:=s.nx+1},?_,_,_,T,rfl,(Mod.refl _ s).new _,rfl, .inr ⟨rfl,rfl,bm,by rw[hres];exact g2⟩⟩
   simp only[cN,bE,mO,hsrc,rS,hk,hon,h1,h2,kW,show Nat.beq 2 2=true from rfl,fv h.hb,g1,qC,iF]
 refine bb hO zB rfl ?_
 unfold aD aD aD aD
 repeat(first|refine uS ?_ |refine aa rfl ?_ |refine ad (by simp(disch:=omega) only[uB,uT,sl0,dk];exact rfl) ?_)
 refine uJ [0,1,2,7,16] ?_
 refine ae rfl rfl (fun hc=>?_) (fun hc=>?_)
 ·cases hc
 ·repeat(first|refine uS ?_ |refine aa rfl ?_ |refine ad (by simp(disch:=omega) only[uB,uT,di];exact rfl) ?_)
  refine uJ [0,1,2,7,8,22] ?_
  refine ae rfl rfl (fun hc=>?_) (fun hc=>?_)
  ·repeat(first|refine uS ?_ |refine aa rfl ?_ |refine ad (by simp(disch:=omega) only[uB,uT,fM bE (.inl rfl),ea];exact rfl) ?_)
   refine ai rfl ?_
   exact hq
  ·cases hc
theorem L1 (hO:O 89=none)(hV:O 95=some mS){s:St}{b o n k m i c N ky:Nat}{t ty:Tr AV}{old new:List AV}{xy:Bool}{cy:Nat}(h:oY 2 s b o n k m i c N ky t ty old new):
  Ca X O (.fn 89) [.slc (some (b,o,2)) n m true, .int .i64 (i:Int), .slc (some (c,0,2)) k cy xy] s (vI 2 b o n k m N (old.take (i*2)++new++old.drop (i*2)) s):=by
 have hi:=h.i0
 by_cases e:i=n
 ·subst e;exact I1 hO h
 ·by_cases hm:n+k≤m
  ·exact Fa hO hV h (by omega) hm
  ·exact Fq hO h (by omega) (by omega)
end
end Go.Proofs.Ytofohkdkpbigiaa
end
section
namespace Go.Proofs.Ytofohkdkpbigiaa
open Go.Am
set_option maxRecDepth 10000
set_option maxHeartbeats 1000000
set_option linter.unusedSimpArgs false
section
variable {O:bj}
theorem Ar:X.fns.get 91=some Try.f91:=by kernel_rfl
theorem Fs (hO:O 91=none)(hV:O 97=some mS){s:St}{b o n k m i c N ky:Nat}{t ty:Tr AV}{old new:List AV}{xy:Bool}{cy:Nat}(h:oY 1 s b o n k m i c N ky t ty old new)(hi:i<n)(hm:n+k≤m):
  Ca X O (.fn 91) [.slc (some (b,o,1)) n m true, .int .i64 (i:Int), .slc (some (c,0,1)) k cy xy] s (vI 1 b o n k m N (old.take (i*1)++new++old.drop (i*1)) s):=by
 obtain⟨t1,t2,e1,e2,e3⟩:=h.room hm
 have hk0:=h.k0
 have hle:=h.le
 have hnm:=h.nm
 have hne:=h.ne
 have hD:ldL t (o+i*1) ((n- i)*1)=some (old.drop (i*1)):=by
  have:=sN h.ko (k:=i*1) (Nat.mul_le_mul_right _ (by omega))
  rw[←Nat.sub_mul] at this;exact this
 have hoD:=(oJ h.oo).2 (i*1)
 have hon:=h.on
 let s1:St:={s with h:=s.h.put b (.cells t1 N)}
 let s2:St:={s1 with h:=s1.h.put b (.cells t2 N)}
 have c1:jG X 70 (.slc (some (b,o+(i+k)*1,1)) (n+k- (i+k)) (m- (i+k)) true) (.slc (some (b,o+i*1,1)) (n+k- i) (m- i) true) s=some (.val (.int .i64 ((min (n+k- i) (n+k- (i+k)):Nat):Int)) s1):=
  mM bV bM (by rw[show min (n+k- i) (n+k- (i+k))=n- i by omega];exact vu h.hb hD (by omega)) (by omega) hoD h.hb e1
 have hs1c:s1.h.get c=some (.cells ty ky):=(aT (Ne.symm hne)).trans h.hc
 have c2:jG X 70 (.slc (some (b,o+i*1,1)) (n+k- i) (m- i) true) (.slc (some (c,0,1)) k cy xy) s1=some (.val (.int .i64 ((min k (n+k- i):Nat):Int)) s2):=
  mM bV bM (h.Gi hs1c (by omega)) (by omega) hon bm e2
 have hov:mS [.slc (some (c,0,1)) k cy xy, .slc (some (b,o+(i+k)*1,1)) (n+k- (i+k)) (m- (i+k)) true] s=some (.ret (.bool false) s):=by
  have h1:Nat.beq c b=false:=by
   cases hq:Nat.beq c b with
   |false=>rfl
   |true=>exact absurd (Nat.beq_eq.mp hq).symm hne
  have h2:vm s (.slc (some (c,0,1)) k cy xy)=true:=by simp only[vm,h.hc,Nat.blt_eq.mpr h.pl]
  simp only[mS,h1,h2,h.hb,Nat.blt_eq.mpr hk0,Bool.not_false,Bool.true_and,show Nat.blt 0 1=true from rfl,Bool.and_self]
 have hii:(i:Int)+(k:Int)=((i+k:Nat):Int):=by omega
 have hnn:(n:Int)+(k:Int)=((n+k:Nat):Int):=by omega
 have sl0:=kp (X:=X) (s:=s) (b:=b) (off:=o) (n:=n) (c:=m) (x:=true) (k:= .i64) (l:=(i:Int)) bV bM (by omega) (by omega) (by omega)
 have sl1:=Bk (X:=X) (s:=s) (b:=b) (off:=o) (n:=n) (c:=m) (x:=true) (k:= .i64) (h:=((n+k:Nat):Int)) bV bM (by omega) (by omega)
 have sl2:=fun s:St=>kp (X:=X) (s:=s) (b:=b) (off:=o) (n:=n+k) (c:=m) (x:=true) (k:= .i64) (l:=((i+k:Nat):Int)) bV bM (by omega) (by omega) (by omega)
 have sl3:=fun s:St=>kp (X:=X) (s:=s) (b:=b) (off:=o) (n:=n+k) (c:=m) (x:=true) (k:= .i64) (l:=(i:Int)) bV bM (by omega) (by omega) (by omega)
 simp only[Int.toNat_natCast] at sl0 sl1 sl2 sl3
 have dk:decide ((k:Int)=0)=false:=by simp;omega
 have di:decide ((i:Int)=(n:Int))=false:=by simp;omega
 have dm:decide ((m:Int)<((n+k:Nat):Int))=false:=by simp;omega
 refine bb hO Ar rfl ?_
 unfold aD aD aD aD
 repeat(first|refine uS ?_ |refine aa rfl ?_ |refine ad (by simp(disch:=omega) only[uB,uT,sl0,dk];exact rfl) ?_)
 refine uJ [0,1,2,7,16] ?_
 refine ae rfl rfl (fun hc=>?_) (fun hc=>?_)
 ·cases hc
 ·repeat(first|refine uS ?_ |refine aa rfl ?_ |refine ad (by simp(disch:=omega) only[uB,uT,di];exact rfl) ?_)
  refine uJ [0,1,2,7,8,22] ?_
  refine ae rfl rfl (fun hc=>?_) (fun hc=>?_)
  ·cases hc
  ·repeat(first|refine uS ?_ |refine aa rfl ?_ |refine ad (by simp(disch:=omega) only[uB,uT,hnn,zZ bV,dm];exact rfl) ?_)
   refine uJ [0,1,2,7,8,31] ?_
   refine ae rfl rfl (fun hc=>?_) (fun hc=>?_)
   ·cases hc
   ·repeat(first|refine uS ?_ |refine aa rfl ?_ |refine ad (by simp(disch:=omega) only[uB,uT,hnn,sl1,hii,sl2];exact rfl) ?_)
    refine aj (ku (Q:=fun z=>z= .ret (.bool false) s) hV hov rfl) ?_ ?_
    ·rintro v s' e
     cases e
     refine uL ?_
     refine uH ?_
     refine uJ [0,1,2,7,8,68] ?_
     refine ae rfl rfl (fun hc=>?_) (fun hc=>?_)
     ·refine uH ?_
      refine aU [(0,none),(1,none),(2,none),(3,none),(4,none),(5,none),(6,none),(7,none),(8,some [false,true,true,false,true,true,true,true])] (by kernel_rfl) (by kernel_rfl) (by simp(disch:=omega) only[uB,uT,Nat.reduceEqDiff,↓reduceIte,uD,mask,aC,aB,hii,sl2,sl3,c1];exact rfl) ?_
      repeat(first|refine uS ?_ |refine aa rfl ?_ |refine ad (by simp(disch:=omega) only[uB,uT,sl3,c2];exact rfl) ?_)
      refine ai rfl ?_
      refine⟨_,s2,t2,rfl,((Mod.refl (fun d=>d=b) s).put (.cells t1 N) (.inr rfl) h.lb).put (.cells t2 N) (.inr rfl) h.lb,rfl, .inl ⟨hm,rfl,rfl,bm,e3⟩⟩
     ·cases hc
    ·rintro v s' e
     cases e
theorem FZ (hO:O 91=none){s:St}{b o n k m i c N ky:Nat}{t ty:Tr AV}{old new:List AV}{xy:Bool}{cy:Nat}(h:oY 1 s b o n k m i c N ky t ty old new)(hi:i<n)(hm:m<n+k):
  Ca X O (.fn 91) [.slc (some (b,o,1)) n m true, .int .i64 (i:Int), .slc (some (c,0,1)) k cy xy] s (vI 1 b o n k m N (old.take (i*1)++new++old.drop (i*1)) s):=by
 have hk0:=h.k0
 have hle:=h.le
 have hnm:=h.nm
 have hne:=h.ne
 have hD:ldL t (o+i*1) ((n- i)*1)=some (old.drop (i*1)):=by
  have:=sN h.ko (k:=i*1) (Nat.mul_le_mul_right _ (by omega))
  rw[←Nat.sub_mul] at this;exact this
 have hoD:=(oJ h.oo).2 (i*1)
 have hon:=h.on
 have hcount:i+(n+k- i)=n+k:=by omega
 obtain⟨T,ez,hT,hF⟩:=PI (X:=X) (t:=70) (u:=3) (len:=i) (cap:=m) (k:=n+k- i) aN bV rO sT rfl rfl (by omega) (by omega) h.hb (xa h.ko (k:=i*1) (Nat.mul_le_mul_right _ (by omega)))
 rw[hcount] at ez hF
 obtain⟨t1,t2,e1,e2,e3⟩:=h.grow hT hF
 let s1:St:={s with h:=s.h.put s.nx (.cells T ((n+k)*1+cD N)),nx:=s.nx+1}
 let s2:St:={s1 with h:=s1.h.put s.nx (.cells t1 ((n+k)*1+cD N))}
 let s3:St:={s2 with h:=s2.h.put s.nx (.cells t2 ((n+k)*1+cD N))}
 replace ez:j8 X 70 3 (.slc (some (b,o,1)) i m true) (.int .i64 ((n+k- i:Nat):Int)) s=some (.val (.slc (some (s.nx,0,1)) (n+k) (n+k) false) s1):=ez
 have lb:=h.lb
 have lc:=h.lc
 have hs1c:s1.h.get c=some (.cells ty ky):=(aT (by omega)).trans h.hc
 have hs2b:s2.h.get b=some (.cells t N):=(aT (by omega)).trans ((aT (by omega)).trans h.hb)
 have c1:jG X 70 (.slc (some (s.nx,0+i*1,1)) (n+k- i) (n+k- i) false) (.slc (some (c,0,1)) k cy xy) s1=some (.val (.int .i64 ((min k (n+k- i):Nat):Int)) s2):=
  mM bV bM (h.Gi hs1c (by omega)) (by omega) hon bm e1
 have c2:jG X 70 (.slc (some (s.nx,0+(i+k)*1,1)) (n+k- (i+k)) (n+k- (i+k)) false) (.slc (some (b,o+i*1,1)) (n- i) (m- i) true) s2=some (.val (.int .i64 ((min (n- i) (n+k- (i+k)):Nat):Int)) s3):=
  mM bV bM (by rw[show min (n- i) (n+k- (i+k))=n- i by omega];exact vu hs2b hD (by omega)) (by omega) hoD bm e2
 have hii:(i:Int)+(k:Int)=((i+k:Nat):Int):=by omega
 have hnn:(n:Int)+(k:Int)=((n+k:Nat):Int):=by omega
 have hni:((n+k:Nat):Int)- (i:Int)=((n+k- i:Nat):Int):=by omega
 have sl0:=fun s:St=>kp (X:=X) (s:=s) (b:=b) (off:=o) (n:=n) (c:=m) (x:=true) (k:= .i64) (l:=(i:Int)) bV bM (by omega) (by omega) (by omega)
 have sl1:=Bk (X:=X) (s:=s) (b:=b) (off:=o) (n:=n) (c:=m) (x:=true) (k:= .i64) (h:=(i:Int)) bV bM (by omega) (by omega)
 have sl2:=fun s':St=>kp (X:=X) (s:=s') (b:=s.nx) (off:=0) (n:=n+k) (c:=n+k) (x:=false) (k:= .i64) (l:=(i:Int)) bV bM (by omega) (by omega) (by omega)
 have sl3:=fun s':St=>kp (X:=X) (s:=s') (b:=s.nx) (off:=0) (n:=n+k) (c:=n+k) (x:=false) (k:= .i64) (l:=((i+k:Nat):Int)) bV bM (by omega) (by omega) (by omega)
 simp only[Int.toNat_natCast] at sl0 sl1 sl2 sl3
 have dk:decide ((k:Int)=0)=false:=by simp;omega
 have di:decide ((i:Int)=(n:Int))=false:=by simp;omega
 have dm:decide ((m:Int)<((n+k:Nat):Int))=true:=by simp;omega
 refine bb hO Ar rfl ?_
 unfold aD aD aD aD
 repeat(first|refine uS ?_ |refine aa rfl ?_ |refine ad (by simp(disch:=omega) only[uB,uT,sl0,dk];exact rfl) ?_)
 refine uJ [0,1,2,7,16] ?_
 refine ae rfl rfl (fun hc=>?_) (fun hc=>?_)
 ·cases hc
 ·repeat(first|refine uS ?_ |refine aa rfl ?_ |refine ad (by simp(disch:=omega) only[uB,uT,di];exact rfl) ?_)
  refine uJ [0,1,2,7,8,22] ?_
  refine ae rfl rfl (fun hc=>?_) (fun hc=>?_)
  ·cases hc
  ·repeat(first|refine uS ?_ |refine aa rfl ?_ |refine ad (by simp(disch:=omega) only[uB,uT,hnn,zZ bV,dm];exact rfl) ?_)
   refine uJ [0,1,2,7,8,31] ?_
   refine ae rfl rfl (fun hc=>?_) (fun hc=>?_)
   ·(repeat(first|refine uS ?_ |refine aa rfl ?_));refine ad (by simp(disch:=omega) only[uB,uT,hnn,hni,sl1,ez];exact rfl) ?_;(repeat(first|refine uS ?_ |refine aa rfl ?_))
    (repeat(first|refine uS ?_ |refine aa rfl ?_));refine ad (by simp(disch:=omega) only[uB,uT,sl2,c1];exact rfl) ?_;(repeat(first|refine uS ?_ |refine aa rfl ?_))
    refine aU [(0,none),(1,none),(2,none),(3,none),(4,none),(5,none),(6,none),(7,none),(8,some [false,true,true,false,true,true,true,true])] (by kernel_rfl) (by kernel_rfl) (by simp(disch:=omega) only[uB,uT,Nat.reduceEqDiff,↓reduceIte,uD,mask,aC,aB,hii,sl3,sl0,c2];exact rfl) ?_
    refine uG ?_
    refine ai rfl ?_
    refine⟨_,s3,t2,rfl,(((Mod.refl (fun d=>d=b) s).new (.cells T ((n+k)*1+cD N))).put (.cells t1 ((n+k)*1+cD N)) (.inl (Nat.le_refl _)) (Nat.lt_succ_self _)).put (.cells t2 ((n+k)*1+cD N)) (.inl (Nat.le_refl _)) (Nat.lt_succ_self _),rfl, .inr ⟨rfl,rfl,bm,e3⟩⟩
   ·cases hc
theorem Hp (hO:O 91=none){s:St}{b o n k m c N ky:Nat}{t ty:Tr AV}{old new:List AV}{xy:Bool}{cy:Nat}(h:oY 1 s b o n k m n c N ky t ty old new):
  Ca X O (.fn 91) [.slc (some (b,o,1)) n m true, .int .i64 (n:Int), .slc (some (c,0,1)) k cy xy] s (vI 1 b o n k m N (old.take (n*1)++new++old.drop (n*1)) s):=by
 have hk0:=h.k0
 have hle:=h.le
 have hnm:=h.nm
 have hne:=h.ne
 have hon:=h.on
 have hsrc:=h.Gi (q:=k) (r:=cy) (x:=xy) h.hc rfl
 have hk:Nat.beq k 0=false:=A6 (by omega)
 obtain⟨v0,sl0⟩:=Hr (X:=X) (s:=s) (b:=b) (off:=o) (n:=n) (k:= .i64) bV bM m hnm
 have dk:decide ((k:Int)=0)=false:=by simp;omega
 have di:decide ((n:Int)=(n:Int))=true:=by simp
 obtain⟨v,s',ea,hq⟩:∃v s',cN X 70 (.slc (some (b,o,1)) n m true) (.slc (some (c,0,1)) k cy xy) s=some (.val v s')∧vI 1 b o n k m N (old.take (n*1)++new++old.drop (n*1)) s (.ret v s'):=by
  by_cases hm:n+k≤m
  ·obtain⟨t1,e1,e3⟩:=h.Qa hm
   have h1:Nat.ble (n+k) m=true:=Nat.ble_eq.mpr hm
   refine⟨.slc (some (b,o,1)) (n+k) m true,{s with h:=s.h.put b (.cells t1 N)},?_,_,_,t1,rfl,(Mod.refl (fun d=>d=b) s).put (.cells t1 N) (.inr rfl) h.lb,rfl, .inl ⟨hm,rfl,rfl,bm,e3⟩⟩
   simp only[cN,bV,rO,hsrc,rS,hk,hon,h1,uW,fv h.hb,e1,zd]
  ·have h1:Nat.ble (n+k) m=false:=by
    cases hq:Nat.ble (n+k) m with
    |false=>rfl
    |true=>exact absurd (Nat.ble_eq.mp hq) hm
   have h2:Nat.ble (n+k) 1000000=true:=Nat.ble_eq.mpr hle
   have hol:=eT h.ko
   have hnl:=eT h.kn
   have hres:old.take (n*1)++new++old.drop (n*1)=old++new:=by rw[List.take_of_length_le (by omega),List.drop_of_length_le (by omega),List.append_nil]
   obtain⟨T,g1,g2⟩:∃T,ka o n 1 N t new=some T∧ldL T 0 ((n+k)*1)=some (old++new):=by
    unfold ka
    split
    ·rename_i hq
     rw[Bool.and_eq_true] at hq
     have q1:=Nat.beq_eq.mp hq.1
     have hko:=h.ko
     rw[q1] at hko
     rw[hko]
     refine⟨_,rfl,?_⟩
     rw[Nat.add_mul]
     refine iE (aR.mpr ⟨hol,fun i u hi=>?_⟩) (aR.mpr ⟨hnl,fun i u hi=>?_⟩)
     ·have:=(List.getElem?_eq_some_iff.mp hi).1
      rw[fm,if_neg (by omega)]
      exact(aR.mp hko).2 i u hi
     ·have:=(List.getElem?_eq_some_iff.mp hi).1
      rw[fm,if_pos (by omega),show 0+n*1+i- n*1=i by omega]
      exact hi
    ·rw[h.ko]
     exact⟨_,rfl,jK (by rw[List.drop_zero,List.take_of_length_le (by rw[List.length_append];omega)]) (by rw[List.length_append];omega)⟩
   refine⟨.slc (some (s.nx,0,1)) (n+k) (n+k) false,{s with h:=s.h.put s.nx (.cells T ((n+k)*1+cD N)),nx:=s.nx+1},?_,_,_,T,rfl,(Mod.refl _ s).new _,rfl, .inr ⟨rfl,rfl,bm,by rw[hres];exact g2⟩⟩
   simp only[cN,bV,rO,hsrc,rS,hk,hon,h1,h2,kW,show Nat.beq 1 1=true from rfl,fv h.hb,g1,qC,iF]
 refine bb hO Ar rfl ?_
 unfold aD aD aD aD
 repeat(first|refine uS ?_ |refine aa rfl ?_ |refine ad (by simp(disch:=omega) only[uB,uT,sl0,dk];exact rfl) ?_)
 refine uJ [0,1,2,7,16] ?_
 refine ae rfl rfl (fun hc=>?_) (fun hc=>?_)
 ·cases hc
 ·repeat(first|refine uS ?_ |refine aa rfl ?_ |refine ad (by simp(disch:=omega) only[uB,uT,di];exact rfl) ?_)
  refine uJ [0,1,2,7,8,22] ?_
  refine ae rfl rfl (fun hc=>?_) (fun hc=>?_)
  ·repeat(first|refine uS ?_ |refine aa rfl ?_ |refine ad (by simp(disch:=omega) only[uB,uT,fM bV (.inl rfl),ea];exact rfl) ?_)
   refine ai rfl ?_
   exact hq
  ·cases hc
theorem KC (hO:O 91=none)(hV:O 97=some mS){s:St}{b o n k m i c N ky:Nat}{t ty:Tr AV}{old new:List AV}{xy:Bool}{cy:Nat}(h:oY 1 s b o n k m i c N ky t ty old new):
  Ca X O (.fn 91) [.slc (some (b,o,1)) n m true, .int .i64 (i:Int), .slc (some (c,0,1)) k cy xy] s (vI 1 b o n k m N (old.take (i*1)++new++old.drop (i*1)) s):=by
 have hi:=h.i0
 by_cases e:i=n
 ·subst e;exact Hp hO h
 ·by_cases hm:n+k≤m
  ·exact Fs hO hV h (by omega) hm
  ·exact FZ hO h (by omega) (by omega)
end
end Go.Proofs.Ytofohkdkpbigiaa
end
section
namespace Go.Am
theorem VRs.Qh {ι:Inj}{a b c:AV}{cargs:Array Value}(h:VRs ι [a,b,c] cargs.toList):∃ca cb cc,cargs= #[ca,cb,cc]∧VR ι a ca∧VR ι b cb∧VR ι c cc:=by
 obtain⟨cl⟩:=cargs
 match cl,h with
 |[ca,cb,cc],h=>simp only[VRs,and_true] at h;exact⟨ca,cb,cc,rfl,h.1,h.2.1,h.2.2⟩
 |[],h=>simp[VRs] at h
 |[_],h=>simp[VRs] at h
 |[_,_],h=>simp[VRs] at h
 | _::_::_::_::_,h=>simp[VRs] at h
theorem DH {n:Nat}{l:List AV}(h:l.all (xp n)=true):aX l=true:=by
 induction l with
 |nil=>rfl
 |cons a l ih=>
  rw[List.all_cons,Bool.and_eq_true] at h
  simp only[aX,ih h.2,Bool.and_true]
  cases a<;>first|rfl|(have:=h.1;simp[xp] at this)
noncomputable def II (t:Tr AV)(lo n:Nat):Tr AV:=Tr.kg ((List.range (n- lo)).map fun j=>(t.get (lo+j)).getD .top) lo .e
theorem tp {t:Tr AV}{lo n j:Nat}:(II t lo n).get j=if lo≤j∧j<n then some ((t.get j).getD .top) else none:=by
 unfold II
 rw[fm]
 simp only[List.length_map,List.length_range]
 by_cases h:lo≤j∧j<n
 ·rw[if_pos (by omega),if_pos h,List.getElem?_map,List.getElem?_range (by omega),Option.map_some,show lo+(j- lo)=j by omega]
 ·rw[if_neg (by omega),if_neg h,Tr.ry]
section
variable {P:Program}{X:Ctx}
theorem Ex (hX:dU P X)(hF:∀f fn,X.fns.get f=some fn→sU fn=true){O1:bj}(hO:pc P O1){f:FuncId}{es:Nat}(hes:0<es)(hO1:O1 f=none)
  (hca:∀ {s:St} {b o n k m i c N ky:Nat} {t ty:Tr AV} {old new:List AV} {xy:Bool} {cy:Nat},oY es s b o n k m i c N ky t ty old new→Ca X O1 (.fn f) [.slc (some (b,o,es)) n m true, .int .i64 (i:Int), .slc (some (c,0,es)) k cy xy] s (vI es b o n k m N (old.take (i*es)++new++old.drop (i*es)) s)):
  fK P f (lO es):=by
 intro args s r hr ι w cargs hv hH
 unfold lO at hr
 split at hr
 ·rename_i b off e n cp x i y
  split at hr
  ·rename_i hcond
   simp only[Bool.and_eq_true] at hcond
   obtain⟨he,hap,hlw⟩:=hcond
   have he:=(Nat.beq_eq.mp he).symm
   subst he
   split at hr
   ·rename_i t k0 hgb
    obtain⟨ca,cb0,cc,rfl,ha,hi,hy⟩:=hv.Qh
    unfold Ah at hap
    split at hap
    ·rename_i c e' kk cy xy
     simp only[Bool.and_eq_true] at hap
     have hbc:b≠c:=fun e=>by rw[e] at hap;simp at hap
     have he':=(Nat.beq_eq.mp hap.2).symm
     subst he'
     simp only[vm] at hlw
     cases hgc:s.h.get c with
     |none=>rw[hgc] at hlw;cases hlw
     |some ab=>
      rw[hgc] at hlw
      cases ab with
      |cells ty ky=>
       have hky:=Nat.blt_eq.mp hlw
       cases hsrc:aZ s es (.slc (some (c,0,es)) kk cy xy) with
       |none=>rw[hsrc] at hr;cases hr
       |some mn=>
        obtain⟨m,new⟩:=mn
        rw[hsrc] at hr
        simp only[Cm,HC] at hr
        cases hold:ldL t off (n*es) with
        |none=>rw[hold] at hr;cases hr
        |some old=>
         rw[hold] at hr
         cases hq:(Nat.ble i n&& (Nat.ble (n+m) 1000000&& (Nat.blt 0 m&&Nat.blt 0 n))) with
         |false=>rw[hq] at hr;cases hr
         |true=>
          rw[hq] at hr
          simp only[Bool.and_eq_true] at hq
          obtain⟨q1,q2,q3,q4⟩:=hq
          have q1:=Nat.ble_eq.mp q1
          have q2:=Nat.ble_eq.mp q2
          have q3:=Nat.blt_eq.mp q3
          have q4:=Nat.blt_eq.mp q4
          cases hlow:((old++new).all (xp s.nx)&&Nat.beq new.length (m*es)) with
          |false=>simp only[hlow] at hr;cases hr
          |true=>
           simp only[hlow,Option.some.injEq] at hr
           subst hr
           simp only[Bool.and_eq_true] at hlow
           have hnl:=Nat.beq_eq.mp hlow.2
           have hlo:=hlow.1
           rw[List.all_append,Bool.and_eq_true] at hlo
           have hoo:=DH hlo.1
           have hon:=DH hlo.2
           have hkm:kk=m∧ldL ty 0 (m*es)=some new:=by
            simp only[aZ] at hsrc
            split at hsrc
            ·simp only[Option.some.injEq,Prod.mk.injEq] at hsrc;omega
            ·rw[show s.cells c=some (ty,ky) from fv hgc] at hsrc
             simp only at hsrc
             cases hl:ldL ty 0 (kk*es) with
             |none=>rw[hl] at hsrc;cases hsrc
             |some l=>
              rw[hl] at hsrc
              simp only[Option.some.injEq,Prod.mk.injEq] at hsrc
              obtain⟨rfl,rfl⟩:=hsrc
              exact⟨rfl,hl⟩
           obtain⟨rfl,hkn⟩:=hkm
           have hol:=eT hold
           simp only[VR] at ha
           obtain⟨cb,d,o2,mm,hιb,rfl,ho2,hncp,hcpm,_,hroom⟩:=ha
           have ho2:=ho2 (.inl (by omega))
           subst ho2
           obtain⟨cs,el,fz,w1,w2,w3,w4⟩:=hH.br b cb d _ hιb hgb
           have hpos:0<n*es:=Nat.mul_pos q4 hes
           have hend:off+n*es≤k0:=by
            have h1:=(aR.mp hold).2 (n*es- 1) (old[n*es- 1]'(by omega)) (List.getElem?_eq_getElem (by omega))
            have:=(w3 _ _ h1).1
            omega
           have hnk:(n+kk)*es=n*es+kk*es:=Nat.add_mul _ _ _
           let N2:=off+min mm (n+kk)*es
           have hN2a:N2≤off+(n+kk)*es:=Nat.add_le_add_left (Nat.mul_le_mul_right _ (Nat.min_le_right _ _)) _
           have hN2b:N2≤off+mm*es:=Nat.add_le_add_left (Nat.mul_le_mul_right _ (Nat.min_le_left _ _)) _
           have hN2c:off+n*es≤N2:=Nat.add_le_add_left (Nat.mul_le_mul_right _ (Nat.le_min.mpr ⟨by omega,by omega⟩)) _
           let t2:=II t off N2
           let N':=k0+kk*es
           have hbr2:BR P ι w cb d (.cells t2 N'):=by
            refine⟨cs,el,fz,w1,w2,fun j v hj=>?_,fun hw=>w4 (by show k0<iM;have:k0+kk*es<iM:=hw;omega)⟩
            rw[show t2.get j=_ from tp] at hj
            split at hj
            ·rename_i hjn
             cases hj
             have hj2:d.2 (d.1+j):=hroom _ (by omega) (by omega)
             refine⟨by show j<k0+kk*es;omega,hj2,?_⟩
             cases ht:t.get j with
             |none=>exact⟨cs[d.1+j]'((w2 _ hj2).1),Array.getElem?_eq_getElem _,by simp[VR]⟩
             |some u=>exact(w3 j u ht).2.2
            ·cases hj
           let s1:St:={s with h:=s.h.put b (.cells t2 N')}
           obtain⟨hH1,hE1⟩:=hH.put (w':=w) hιb hgb (Kin.refl _) rfl (fun _ _=>rfl) hbr2 (.same rfl)
           have lb:=hH.dom b _ hιb
           simp only[VR] at hy
           obtain⟨ccb,cd,co,cm,hιc,rfl,cy1,cy2,cy3,cy4,cy5⟩:=hy
           have lc:=hH.dom c _ hιc
           have hins:oY es s1 b off n kk mm i c N' ky t2 ty old new:=by
            refine⟨bm,(aT (Ne.symm hbc)).trans hgc,hbc,?_,hkn,hoo,hon,fun hm j hj=>?_,q3,q4,q1,by omega,q2,hky,lb,lc⟩
            ·refine aR.mpr ⟨hol,fun j u hj=>?_⟩
             have h1:=(aR.mp hold).2 j u hj
             have:=(List.getElem?_eq_some_iff.mp hj).1
             rw[show t2.get (off+j)=_ from tp,if_pos (by omega),h1];rfl
            ·have:N2=off+(n+kk)*es:=by show off+min mm (n+kk)*es=_;rw[Nat.min_eq_right hm]
             exact⟨_,by rw[show t2.get (off+j)=_ from tp,if_pos (by omega)]⟩
           obtain⟨nn,r1,hrun,v0,s0,t',rfl,hmod,hsh,hcases⟩:=hca (xy:=xy) (cy:=cy) hins
           have hrun':mw X O1 nn f [.slc (some (b,off,es)) n mm true, .int .i64 (i:Int), .slc (some (c,0,es)) kk cy xy] s1=some (.ret v0 s0):=by
            simpa only[cF,fN,hO1,mw] using hrun
           have hvs:VRs ι [.slc (some (b,off,es)) n mm true, .int .i64 (i:Int), .slc (some (c,0,es)) kk cy xy] (#[.slice (some ⟨cb,d.1+off,none⟩) n mm,cb0, .slice (some ⟨ccb,co,none⟩) kk cm]:Array Value).toList:=by
            simp only[VRs,VR,and_true]
            refine⟨⟨cb,d,_,mm,hιb,rfl,fun _=>rfl,by omega,Nat.le_refl _,fun _=>rfl,hroom⟩,?_,⟨ccb,cd,co,cm,hιc,rfl,cy1,cy2,cy3,cy4,cy5⟩⟩
            simpa[VR] using hi
           obtain⟨g1,g2⟩:=lj hX hF hO nn hrun' hvs hH1
           refine .inl ⟨g1,CallsIn.mono g2 fun e w' hp=>?_⟩
           have hres:(old.take (i*es)++new++old.drop (i*es)).length=(n+kk)*es:=by
            have:i*es≤n*es:=Nat.mul_le_mul_right _ q1
            simp only[List.length_append,List.length_take,List.length_drop];omega
           generalize old.take (i*es)++new++old.drop (i*es)=res at hcases hres ⊢
           have live:∀q ab,(((s.h.del b).put s.nx (.cells (Tr.of res) ((n+kk)*es+cD N'))).get q=some ab)→(q=s.nx∧AB.cells (Tr.of res) ((n+kk)*es+cD N')=ab)∨(q≠s.nx∧q≠b∧s.h.get q=some ab):=fun q ab hg=>by
            rcases Tr.df hg with a|⟨a,hg⟩
            ·exact .inl a
            ·exact .inr ⟨a,Tr.fu hg⟩
           have same:∀q ab,q<s.nx→q≠b→s.h.get q=some ab→s0.h.get q=some ab:=fun q ab hq hb hg=>by
            rw[hmod.old q hq hb]
            exact(aT hb).trans hg
           cases e with
           |outgrown=>exact hp.elim
           |panicked ch=>obtain⟨_,_,e,_⟩:=hp;cases e
           |returned cv=>
            obtain⟨v1,s2,e,κ,hvr,hHk,hE⟩:=hp
            cases e
            have hgl:s0.gl=s.gl:=hmod.gl
            have ownS:∀g,Own ι s1 g→Own ι s g:=fun g ⟨q,dd,ab,x1,x2⟩=>by
             by_cases hqb:q=b
             ·subst hqb;exact⟨q,dd,_,x1,hgb⟩
             ·exact⟨q,dd,ab,x1,by rw[←x2];exact(aT hqb).symm⟩
            rcases hcases with⟨hm,rfl,hnx,hg0,hld⟩|⟨rfl,hnx,hg0,hld⟩
            ·
             have hκ:κ=ι:=by
              funext q
              rcases Nat.lt_or_ge q s.nx with h|h
              ·exact hE.old q h
              ·cases h1:κ q with
               |some z=>have:=hHk.dom q z h1;have:s0.nx=s.nx:=hnx;omega
               |none=>
                cases h2:ι q with
                |some z=>have:=hH.dom q z h2;omega
                |none=>rfl
             subst hκ
             let κ2:Inj:=κ.at s.nx (cb,(d.1+off,d.2))
             have hle:κ.le κ2:=Inj.yj hH.fresh
             have oldκ:∀q x,q≠s.nx→κ2 q=some x→κ q=some x:=fun q x hq hx=>by
              simp only[κ2,Inj.at] at hx;rwa [if_neg hq] at hx
             have atn:∀x,κ2 s.nx=some x→(cb,(d.1+off,d.2))=x:=fun x hx=>by
              simp only[κ2,Inj.at,if_true,Option.some.injEq] at hx;exact hx
             simp only[VR] at hvr
             obtain⟨cb',d',o',m',v2,rfl,v3,v4,v5,v6,v7⟩:=hvr
             rw[hιb] at v2
             cases v2
             have v3:=v3 (.inr trivial)
             subst v3
             obtain⟨ks,ke,kz,z1,z2,z3,z4⟩:=hHk.br b cb d _ hιb hg0
             have hOw:∀g,Own κ2 {s with h:=(s.h.del b).put s.nx (.cells (Tr.of res) ((n+kk)*es+cD N')),nx:=s.nx+1,sh:=s.nx::s.sh} g→Own κ s g:=by
              rintro g ⟨q,dd,ab,x1,x2⟩
              rcases live q ab x2 with⟨rfl,_⟩|⟨y1,y2,y3⟩
              ·have:=atn _ x1
               simp only[Prod.mk.injEq] at this
               rw[←this.1]
               exact⟨b,d,_,hιb,hgb⟩
              ·exact⟨q,dd,ab,oldκ q _ y1 x1,y3⟩
             have hOw2:∀g,Own κ s g→Own κ s0 g:=by
              rintro g ⟨q,dd,ab,x1,x2⟩
              by_cases hqb:q=b
              ·subst hqb;exact⟨q,dd,_,x1,hg0⟩
              ·exact⟨q,dd,ab,x1,same q ab (hH.dom q _ x1) hqb x2⟩
             refine⟨_,_,rfl,κ2,?_,⟨fun g c hg=>?_,fun q cb' dd hx hs=>?_,fun q x hx=>?_,fun q cb' dd ab hx hg=>?_,fun q1 q2 cb' d1 d2 ab1 ab2 h1 h2 k1 k2=>?_⟩,⟨hle,Nat.le_trans hE1.size hE.size,fun cb' hcb' ho'=>?_,fun q hq=>?_,Nat.le_succ _,hE1.kin.trans hE.kin,fun cb' hcb' j=>?_,(hE1.trans hE).kept⟩⟩
             ·simp only[VR]
              exact⟨cb,(d.1+off,d.2),_,m',by simp[κ2,Inj.at],rfl,fun _=>rfl,Nat.le_refl _,by omega,fun e=>(by cases e),v7⟩
             ·obtain⟨y1,y2⟩:=hHk.gl g c (by rw[hgl];exact hg)
              exact⟨fun ho=>y1 (hOw2 g (hOw g ho)),y2⟩
             ·have hs:dx q (s.nx::s.sh)=false:=hs
              exact hH.base q cb' dd (oldκ q _ (lG hs).1 hx) (lG hs).2
             ·show q<s.nx+1
              by_cases e:q=s.nx
              ·omega
              ·have:=hH.dom q x (oldκ q x e hx);omega
             ·rcases live q ab hg with⟨rfl,rfl⟩|⟨y1,y2,y3⟩
              ·have:=atn _ hx
               simp only[Prod.mk.injEq] at this
               obtain⟨rfl,rfl⟩:=this
               refine⟨ks,ke,kz,z1,z2,fun j u hj=>?_,fun hw=>z4 (En hw)⟩
               have hj:=Tr.dF hj
               have hjl:=(List.getElem?_eq_some_iff.mp hj).1
               obtain⟨_,p2,cv',p3,p4⟩:=z3 _ _ ((aR.mp hld).2 j u hj)
               have p2:d.2 (d.1+off+j):=by rwa [Nat.add_assoc]
               exact⟨by omega,p2,cv',by rw[←p3];congr 1;simp only;omega,p4.mono hle⟩
              ·have hx:=oldκ q _ y1 hx
               exact(hHk.br q cb' dd ab hx (same q ab (hH.dom q _ hx) y2 y3)).frame rfl hle
             ·rcases live q1 ab1 k1 with⟨rfl,_⟩|⟨y1,y2,y3⟩<;>rcases live q2 ab2 k2 with⟨rfl,_⟩|⟨x1,x2,x3⟩
              ·rfl
              ·have e1:=atn _ h1
               simp only[Prod.mk.injEq] at e1
               have hx:=oldκ q2 _ x1 h2
               exact absurd (hHk.inj q2 b cb' d2 d _ _ hx (e1.1▸hιb) (same q2 ab2 (hH.dom q2 _ hx) x2 x3) hg0) x2
              ·have e1:=atn _ h2
               simp only[Prod.mk.injEq] at e1
               have hx:=oldκ q1 _ y1 h1
               exact absurd (hHk.inj q1 b cb' d1 d _ _ hx (e1.1▸hιb) (same q1 ab1 (hH.dom q1 _ hx) y2 y3) hg0) y2
              ·have hx1:=oldκ q1 _ y1 h1
               have hx2:=oldκ q2 _ x1 h2
               exact hHk.inj q1 q2 cb' d1 d2 _ _ hx1 hx2 (same q1 ab1 (hH.dom q1 _ hx1) y2 y3) (same q2 ab2 (hH.dom q2 _ hx2) x2 x3)
             ·obtain⟨y1,_⟩:=hE.jn cb' hcb' (fun ho=>ho' (ownS _ ho))
              exact⟨y1,fun ho=>ho' (hOw _ ho)⟩
             ·simp only[κ2,Inj.at];rw[if_neg (by omega)]
             ·rintro⟨q,dd,ab,x1,x2,hj⟩
              rcases live q ab x2 with⟨rfl,_⟩|⟨y1,y2,y3⟩
              ·have:=atn _ x1
               simp only[Prod.mk.injEq] at this
               obtain⟨rfl,rfl⟩:=this
               exact⟨b,d,_,hιb,hgb,hj⟩
              ·exact⟨q,dd,ab,oldκ q _ y1 x1,y3,hj⟩
            ·
             have hOw:∀g,Own κ {s with h:=(s.h.del b).put s.nx (.cells (Tr.of res) ((n+kk)*es+cD N')),nx:=s.nx+1,sh:=s.nx::s.sh} g→Own κ s0 g:=by
              rintro g ⟨q,dd,ab,x1,x2⟩
              rcases live q ab x2 with⟨rfl,_⟩|⟨y1,y2,y3⟩
              ·exact⟨_,dd,_,x1,hg0⟩
              ·have h1:=hHk.dom q _ x1
               have h2:s0.nx=s.nx+1:=hnx
               exact⟨q,dd,ab,x1,same q ab (by omega) y2 y3⟩
             have hs0:s0.nx=s.nx+1:=hnx
             refine⟨_,_,rfl,κ,hvr,⟨fun g c hg=>?_,fun q cb' dd hx hs=>?_,fun q x hx=>?_,fun q cb' dd ab hx hg=>?_,fun q1 q2 cb' d1 d2 ab1 ab2 h1 h2 k1 k2=>?_⟩,⟨hE.le,Nat.le_trans hE1.size hE.size,fun cb' hcb' ho'=>?_,fun q hq=>hE.old q hq,Nat.le_succ _,hE1.kin.trans hE.kin,fun cb' hcb' j=>?_,(hE1.trans hE).kept⟩⟩
             ·obtain⟨y1,y2⟩:=hHk.gl g c (by rw[hgl];exact hg)
              exact⟨fun ho=>y1 (hOw g ho),y2⟩
             ·have hs:dx q (s.nx::s.sh)=false:=hs
              exact hHk.base q cb' dd hx (by rw[hsh];exact(lG hs).2)
             ·have:=hHk.dom q x hx
              show q<s.nx+1
              omega
             ·rcases live q ab hg with⟨rfl,rfl⟩|⟨y1,y2,y3⟩
              ·obtain⟨ks,ke,kz,z1,z2,z3,z4⟩:=hHk.br _ cb' dd _ hx hg0
               refine⟨ks,ke,kz,z1,z2,fun j u hj=>?_,z4⟩
               have hj:=Tr.dF hj
               have:=(aR.mp hld).2 j u hj
               rw[Nat.zero_add] at this
               exact z3 _ _ this
              ·have:=hHk.dom q _ hx
               exact hHk.br q cb' dd ab hx (same q ab (by omega) y2 y3)
             ·have a1:=hHk.dom q1 _ h1
              have a2:=hHk.dom q2 _ h2
              have l1:∃ab,s0.h.get q1=some ab:=by
               rcases live q1 ab1 k1 with⟨rfl,_⟩|⟨y1,y2,y3⟩
               ·exact⟨_,hg0⟩
               ·exact⟨_,same q1 ab1 (by omega) y2 y3⟩
              have l2:∃ab,s0.h.get q2=some ab:=by
               rcases live q2 ab2 k2 with⟨rfl,_⟩|⟨y1,y2,y3⟩
               ·exact⟨_,hg0⟩
               ·exact⟨_,same q2 ab2 (by omega) y2 y3⟩
              obtain⟨_,l1⟩:=l1
              obtain⟨_,l2⟩:=l2
              exact hHk.inj q1 q2 cb' d1 d2 _ _ h1 h2 l1 l2
             ·obtain⟨y1,y2⟩:=hE.jn cb' hcb' (fun ho=>ho' (ownS _ ho))
              exact⟨y1,fun ho=>y2 (hOw _ ho)⟩
             ·rintro⟨q,dd,ab,x1,x2,hj⟩
              refine(hE1.trans hE).wr cb' hcb' j ?_
              rcases live q ab x2 with⟨rfl,_⟩|⟨y1,y2,y3⟩
              ·exact⟨_,dd,_,x1,hg0,hj⟩
              ·have h1:=hHk.dom q _ x1
               have h2:s0.nx=s.nx+1:=hnx
               exact⟨q,dd,ab,x1,same q ab (by omega) y2 y3,hj⟩
      | _=>cases hlw
    ·cases hap
   ·cases hr
  ·cases hr
 ·cases hr
end
end Go.Am
end
