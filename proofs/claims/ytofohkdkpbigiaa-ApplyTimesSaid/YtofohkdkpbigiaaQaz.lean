/-
  A part of the texts.
-/
import Derived.Sort.KeysCollected
import Derived.Sort.Walk0
import Derived.StringKeys
import Derived.Test.YtofohkdkpbigiaaQay
section
namespace Go.Proofs.Ytofohkdkpbigiaa
open Go.Am
set_option maxRecDepth 10000
set_option maxHeartbeats 1000000
set_option linter.unusedSimpArgs false
section
variable {O:bk}
theorem yS:X.fns.get 91=some Try.f91:=by kernel_rfl
theorem EZ (hO:O 91=none)(hV:O 97=some ml){s:St}{b o n k m i c N ky:Nat}{t ty:Tr AV}{old new:List AV}{xy:Bool}{cy:Nat}(h:oP 1 s b o n k m i c N ky t ty old new)(hi:i<n)(hm:n+k≤m):
  Ca X O (.fn 91) [.slc (some (b,o,1)) n m true, .int .i64 (i:Int), .slc (some (c,0,1)) k cy xy] s (vN 1 b o n k m N (old.take (i*1)++new++old.drop (i*1)) s):=by
 obtain⟨t1,t2,e1,e2,e3⟩:=h.room hm
 have hk0:=h.k0
 have hle:=h.le
 have hnm:=h.nm
 have hne:=h.ne
 have hD:ldL t (o+i*1) ((n- i)*1)=some (old.drop (i*1)):=by
  have:=sj h.ko (k:=i*1) (Nat.mul_le_mul_right _ (by omega))
  rw[←Nat.sub_mul] at this;exact this
 have hoD:=(nG h.oo).2 (i*1)
 have hon:=h.on
 let s1:St:={s with h:=s.h.put b (.cells t1 N)}
 let s2:St:={s1 with h:=s1.h.put b (.cells t2 N)}
 have c1:jj X 70 (.slc (some (b,o+(i+k)*1,1)) (n+k- (i+k)) (m- (i+k)) true) (.slc (some (b,o+i*1,1)) (n+k- i) (m- i) true) s=some (.val (.int .i64 ((min (n+k- i) (n+k- (i+k)):Nat):Int)) s1):=
  mD bU bK (by rw[show min (n+k- i) (n+k- (i+k))=n- i by omega];exact v9 h.hb hD (by omega)) (by omega) hoD h.hb e1
 have hs1c:s1.h.get c=some (.cells ty ky):=(aS (Ne.symm hne)).trans h.hc
 have c2:jj X 70 (.slc (some (b,o+i*1,1)) (n+k- i) (m- i) true) (.slc (some (c,0,1)) k cy xy) s1=some (.val (.int .i64 ((min k (n+k- i):Nat):Int)) s2):=
  mD bU bK (h.ES hs1c (by omega)) (by omega) hon bu e2
 have hov:ml [.slc (some (c,0,1)) k cy xy, .slc (some (b,o+(i+k)*1,1)) (n+k- (i+k)) (m- (i+k)) true] s=some (.ret (.bool false) s):=by
  have h1:Nat.beq c b=false:=by
   cases hq:Nat.beq c b with
   |false=>rfl
   |true=>exact absurd (Nat.beq_eq.mp hq).symm hne
  have h2:wN s (.slc (some (c,0,1)) k cy xy)=true:=by simp only[wN,h.hc,Nat.blt_eq.mpr h.pl]
  simp only[ml,h1,h2,h.hb,Nat.blt_eq.mpr hk0,Bool.not_false,Bool.true_and,show Nat.blt 0 1=true from rfl,Bool.and_self]
 have hii:(i:Int)+(k:Int)=((i+k:Nat):Int):=by omega
 have hnn:(n:Int)+(k:Int)=((n+k:Nat):Int):=by omega
 have sl0:=jZ (X:=X) (s:=s) (b:=b) (off:=o) (n:=n) (c:=m) (x:=true) (k:= .i64) (l:=(i:Int)) bU bK (by omega) (by omega) (by omega)
 have sl1:=Bd (X:=X) (s:=s) (b:=b) (off:=o) (n:=n) (c:=m) (x:=true) (k:= .i64) (h:=((n+k:Nat):Int)) bU bK (by omega) (by omega)
 have sl2:=fun s:St=>jZ (X:=X) (s:=s) (b:=b) (off:=o) (n:=n+k) (c:=m) (x:=true) (k:= .i64) (l:=((i+k:Nat):Int)) bU bK (by omega) (by omega) (by omega)
 have sl3:=fun s:St=>jZ (X:=X) (s:=s) (b:=b) (off:=o) (n:=n+k) (c:=m) (x:=true) (k:= .i64) (l:=(i:Int)) bU bK (by omega) (by omega) (by omega)
 simp only[Int.toNat_natCast] at sl0 sl1 sl2 sl3
 have dk:decide ((k:Int)=0)=false:=by simp;omega
 have di:decide ((i:Int)=(n:Int))=false:=by simp;omega
 have dm:decide ((m:Int)<((n+k:Nat):Int))=false:=by simp;omega
 refine aZ hO yS rfl ?_
 unfold aB aB aB aB
 repeat(first|refine uS ?_ |refine aa rfl ?_ |refine ad (by simp(disch:=omega) only[uB,uT,sl0,dk];exact rfl) ?_)
 refine uJ [0,1,2,7,16] ?_
 refine ae rfl rfl (fun hc=>?_) (fun hc=>?_)
 ·cases hc
 ·repeat(first|refine uS ?_ |refine aa rfl ?_ |refine ad (by simp(disch:=omega) only[uB,uT,di];exact rfl) ?_)
  refine uJ [0,1,2,7,8,22] ?_
  refine ae rfl rfl (fun hc=>?_) (fun hc=>?_)
  ·cases hc
  ·repeat(first|refine uS ?_ |refine aa rfl ?_ |refine ad (by simp(disch:=omega) only[uB,uT,hnn,Ab bU,dm];exact rfl) ?_)
   refine uJ [0,1,2,7,8,31] ?_
   refine ae rfl rfl (fun hc=>?_) (fun hc=>?_)
   ·cases hc
   ·repeat(first|refine uS ?_ |refine aa rfl ?_ |refine ad (by simp(disch:=omega) only[uB,uT,hnn,sl1,hii,sl2];exact rfl) ?_)
    refine au (qx (Q:=fun z=>z= .ret (.bool false) s) hV hov rfl) ?_ ?_
    ·rintro v s' e
     cases e
     refine uL ?_
     refine uH ?_
     refine uJ [0,1,2,7,8,68] ?_
     refine ae rfl rfl (fun hc=>?_) (fun hc=>?_)
     ·refine uH ?_
      refine aV [(0,none),(1,none),(2,none),(3,none),(4,none),(5,none),(6,none),(7,none),(8,some [false,true,true,false,true,true,true,true])] (by kernel_rfl) (by kernel_rfl) (by simp(disch:=omega) only[uB,uT,Nat.reduceEqDiff,↓reduceIte,uD,mask,aC,aA,hii,sl2,sl3,c1];exact rfl) ?_
      repeat(first|refine uS ?_ |refine aa rfl ?_ |refine ad (by simp(disch:=omega) only[uB,uT,sl3,c2];exact rfl) ?_)
      refine ai rfl ?_
      refine⟨_,s2,t2,rfl,((Mod.refl (fun d=>d=b) s).put (.cells t1 N) (.inr rfl) h.lb).put (.cells t2 N) (.inr rfl) h.lb,rfl, .inl ⟨hm,rfl,rfl,bu,e3⟩⟩
     ·cases hc
    ·rintro v s' e
     cases e
theorem E1 (hO:O 91=none){s:St}{b o n k m i c N ky:Nat}{t ty:Tr AV}{old new:List AV}{xy:Bool}{cy:Nat}(h:oP 1 s b o n k m i c N ky t ty old new)(hi:i<n)(hm:m<n+k):
  Ca X O (.fn 91) [.slc (some (b,o,1)) n m true, .int .i64 (i:Int), .slc (some (c,0,1)) k cy xy] s (vN 1 b o n k m N (old.take (i*1)++new++old.drop (i*1)) s):=by
 have hk0:=h.k0
 have hle:=h.le
 have hnm:=h.nm
 have hne:=h.ne
 have hD:ldL t (o+i*1) ((n- i)*1)=some (old.drop (i*1)):=by
  have:=sj h.ko (k:=i*1) (Nat.mul_le_mul_right _ (by omega))
  rw[←Nat.sub_mul] at this;exact this
 have hoD:=(nG h.oo).2 (i*1)
 have hon:=h.on
 have hcount:i+(n+k- i)=n+k:=by omega
 obtain⟨T,ez,hT,hF⟩:=Oz (X:=X) (t:=70) (u:=3) (len:=i) (cap:=m) (k:=n+k- i) aJ bU sN sE rfl rfl (by omega) (by omega) h.hb (wR h.ko (k:=i*1) (Nat.mul_le_mul_right _ (by omega)))
 rw[hcount] at ez hF
 obtain⟨t1,t2,e1,e2,e3⟩:=h.grow hT hF
 let s1:St:={s with h:=s.h.put s.nx (.cells T ((n+k)*1+cf N)),nx:=s.nx+1}
 let s2:St:={s1 with h:=s1.h.put s.nx (.cells t1 ((n+k)*1+cf N))}
 let s3:St:={s2 with h:=s2.h.put s.nx (.cells t2 ((n+k)*1+cf N))}
 replace ez:jO X 70 3 (.slc (some (b,o,1)) i m true) (.int .i64 ((n+k- i:Nat):Int)) s=some (.val (.slc (some (s.nx,0,1)) (n+k) (n+k) false) s1):=ez
 have lb:=h.lb
 have lc:=h.lc
 have hs1c:s1.h.get c=some (.cells ty ky):=(aS (by omega)).trans h.hc
 have hs2b:s2.h.get b=some (.cells t N):=(aS (by omega)).trans ((aS (by omega)).trans h.hb)
 have c1:jj X 70 (.slc (some (s.nx,0+i*1,1)) (n+k- i) (n+k- i) false) (.slc (some (c,0,1)) k cy xy) s1=some (.val (.int .i64 ((min k (n+k- i):Nat):Int)) s2):=
  mD bU bK (h.ES hs1c (by omega)) (by omega) hon bu e1
 have c2:jj X 70 (.slc (some (s.nx,0+(i+k)*1,1)) (n+k- (i+k)) (n+k- (i+k)) false) (.slc (some (b,o+i*1,1)) (n- i) (m- i) true) s2=some (.val (.int .i64 ((min (n- i) (n+k- (i+k)):Nat):Int)) s3):=
  mD bU bK (by rw[show min (n- i) (n+k- (i+k))=n- i by omega];exact v9 hs2b hD (by omega)) (by omega) hoD bu e2
 have hii:(i:Int)+(k:Int)=((i+k:Nat):Int):=by omega
 have hnn:(n:Int)+(k:Int)=((n+k:Nat):Int):=by omega
 have hni:((n+k:Nat):Int)- (i:Int)=((n+k- i:Nat):Int):=by omega
 have sl0:=fun s:St=>jZ (X:=X) (s:=s) (b:=b) (off:=o) (n:=n) (c:=m) (x:=true) (k:= .i64) (l:=(i:Int)) bU bK (by omega) (by omega) (by omega)
 have sl1:=Bd (X:=X) (s:=s) (b:=b) (off:=o) (n:=n) (c:=m) (x:=true) (k:= .i64) (h:=(i:Int)) bU bK (by omega) (by omega)
 have sl2:=fun s':St=>jZ (X:=X) (s:=s') (b:=s.nx) (off:=0) (n:=n+k) (c:=n+k) (x:=false) (k:= .i64) (l:=(i:Int)) bU bK (by omega) (by omega) (by omega)
 have sl3:=fun s':St=>jZ (X:=X) (s:=s') (b:=s.nx) (off:=0) (n:=n+k) (c:=n+k) (x:=false) (k:= .i64) (l:=((i+k:Nat):Int)) bU bK (by omega) (by omega) (by omega)
 simp only[Int.toNat_natCast] at sl0 sl1 sl2 sl3
 have dk:decide ((k:Int)=0)=false:=by simp;omega
 have di:decide ((i:Int)=(n:Int))=false:=by simp;omega
 have dm:decide ((m:Int)<((n+k:Nat):Int))=true:=by simp;omega
 refine aZ hO yS rfl ?_
 unfold aB aB aB aB
 repeat(first|refine uS ?_ |refine aa rfl ?_ |refine ad (by simp(disch:=omega) only[uB,uT,sl0,dk];exact rfl) ?_)
 refine uJ [0,1,2,7,16] ?_
 refine ae rfl rfl (fun hc=>?_) (fun hc=>?_)
 ·cases hc
 ·repeat(first|refine uS ?_ |refine aa rfl ?_ |refine ad (by simp(disch:=omega) only[uB,uT,di];exact rfl) ?_)
  refine uJ [0,1,2,7,8,22] ?_
  refine ae rfl rfl (fun hc=>?_) (fun hc=>?_)
  ·cases hc
  ·repeat(first|refine uS ?_ |refine aa rfl ?_ |refine ad (by simp(disch:=omega) only[uB,uT,hnn,Ab bU,dm];exact rfl) ?_)
   refine uJ [0,1,2,7,8,31] ?_
   refine ae rfl rfl (fun hc=>?_) (fun hc=>?_)
   ·(repeat(first|refine uS ?_ |refine aa rfl ?_));refine ad (by simp(disch:=omega) only[uB,uT,hnn,hni,sl1,ez];exact rfl) ?_;(repeat(first|refine uS ?_ |refine aa rfl ?_))
    (repeat(first|refine uS ?_ |refine aa rfl ?_));refine ad (by simp(disch:=omega) only[uB,uT,sl2,c1];exact rfl) ?_;(repeat(first|refine uS ?_ |refine aa rfl ?_))
    refine aV [(0,none),(1,none),(2,none),(3,none),(4,none),(5,none),(6,none),(7,none),(8,some [false,true,true,false,true,true,true,true])] (by kernel_rfl) (by kernel_rfl) (by simp(disch:=omega) only[uB,uT,Nat.reduceEqDiff,↓reduceIte,uD,mask,aC,aA,hii,sl3,sl0,c2];exact rfl) ?_
    refine uG ?_
    refine ai rfl ?_
    refine⟨_,s3,t2,rfl,(((Mod.refl (fun d=>d=b) s).new (.cells T ((n+k)*1+cf N))).put (.cells t1 ((n+k)*1+cf N)) (.inl (Nat.le_refl _)) (Nat.lt_succ_self _)).put (.cells t2 ((n+k)*1+cf N)) (.inl (Nat.le_refl _)) (Nat.lt_succ_self _),rfl, .inr ⟨rfl,rfl,bu,e3⟩⟩
   ·cases hc
theorem GN (hO:O 91=none){s:St}{b o n k m c N ky:Nat}{t ty:Tr AV}{old new:List AV}{xy:Bool}{cy:Nat}(h:oP 1 s b o n k m n c N ky t ty old new):
  Ca X O (.fn 91) [.slc (some (b,o,1)) n m true, .int .i64 (n:Int), .slc (some (c,0,1)) k cy xy] s (vN 1 b o n k m N (old.take (n*1)++new++old.drop (n*1)) s):=by
 have hk0:=h.k0
 have hle:=h.le
 have hnm:=h.nm
 have hne:=h.ne
 have hon:=h.on
 have hsrc:=h.ES (q:=k) (r:=cy) (x:=xy) h.hc rfl
 have hk:Nat.beq k 0=false:=AD (by omega)
 obtain⟨v0,sl0⟩:=HV (X:=X) (s:=s) (b:=b) (off:=o) (n:=n) (k:= .i64) bU bK m hnm
 have dk:decide ((k:Int)=0)=false:=by simp;omega
 have di:decide ((n:Int)=(n:Int))=true:=by simp
 obtain⟨v,s',ea,hq⟩:∃v s',cL X 70 (.slc (some (b,o,1)) n m true) (.slc (some (c,0,1)) k cy xy) s=some (.val v s')∧vN 1 b o n k m N (old.take (n*1)++new++old.drop (n*1)) s (.ret v s'):=by
  by_cases hm:n+k≤m
  ·obtain⟨t1,e1,e3⟩:=h.PK hm
   have h1:Nat.ble (n+k) m=true:=Nat.ble_eq.mpr hm
   refine⟨.slc (some (b,o,1)) (n+k) m true,{s with h:=s.h.put b (.cells t1 N)},?_,_,_,t1,rfl,(Mod.refl (fun d=>d=b) s).put (.cells t1 N) (.inr rfl) h.lb,rfl, .inl ⟨hm,rfl,rfl,bu,e3⟩⟩
   simp only[cL,bU,sN,hsrc,rq,hk,hon,h1,uz,fp h.hb,e1,yP]
  ·have h1:Nat.ble (n+k) m=false:=by
    cases hq:Nat.ble (n+k) m with
    |false=>rfl
    |true=>exact absurd (Nat.ble_eq.mp hq) hm
   have h2:Nat.ble (n+k) 1000000=true:=Nat.ble_eq.mpr hle
   have hol:=eM h.ko
   have hnl:=eM h.kn
   have hres:old.take (n*1)++new++old.drop (n*1)=old++new:=by rw[List.take_of_length_le (by omega),List.drop_of_length_le (by omega),List.append_nil]
   obtain⟨T,g1,g2⟩:∃T,jT o n 1 N t new=some T∧ldL T 0 ((n+k)*1)=some (old++new):=by
    unfold jT
    split
    ·rename_i hq
     rw[Bool.and_eq_true] at hq
     have q1:=Nat.beq_eq.mp hq.1
     have hko:=h.ko
     rw[q1] at hko
     rw[hko]
     refine⟨_,rfl,?_⟩
     rw[Nat.add_mul]
     refine hY (aR.mpr ⟨hol,fun i u hi=>?_⟩) (aR.mpr ⟨hnl,fun i u hi=>?_⟩)
     ·have:=(List.getElem?_eq_some_iff.mp hi).1
      rw[gf,if_neg (by omega)]
      exact(aR.mp hko).2 i u hi
     ·have:=(List.getElem?_eq_some_iff.mp hi).1
      rw[gf,if_pos (by omega),show 0+n*1+i- n*1=i by omega]
      exact hi
    ·rw[h.ko]
     exact⟨_,rfl,jt (by rw[List.drop_zero,List.take_of_length_le (by rw[List.length_append];omega)]) (by rw[List.length_append];omega)⟩
   refine⟨.slc (some (s.nx,0,1)) (n+k) (n+k) false,{s with h:=s.h.put s.nx (.cells T ((n+k)*1+cf N)),nx:=s.nx+1},?_,_,_,T,rfl,(Mod.refl _ s).new _,rfl, .inr ⟨rfl,rfl,bu,by rw[hres];exact g2⟩⟩
   simp only[cL,bU,sN,hsrc,rq,hk,hon,h1,h2,kW,show Nat.beq 1 1=true from rfl,fp h.hb,g1,qX,gM]
 refine aZ hO yS rfl ?_
 unfold aB aB aB aB
 repeat(first|refine uS ?_ |refine aa rfl ?_ |refine ad (by simp(disch:=omega) only[uB,uT,sl0,dk];exact rfl) ?_)
 refine uJ [0,1,2,7,16] ?_
 refine ae rfl rfl (fun hc=>?_) (fun hc=>?_)
 ·cases hc
 ·repeat(first|refine uS ?_ |refine aa rfl ?_ |refine ad (by simp(disch:=omega) only[uB,uT,di];exact rfl) ?_)
  refine uJ [0,1,2,7,8,22] ?_
  refine ae rfl rfl (fun hc=>?_) (fun hc=>?_)
  ·repeat(first|refine uS ?_ |refine aa rfl ?_ |refine ad (by simp(disch:=omega) only[uB,uT,gd bU (.inl rfl),ea];exact rfl) ?_)
   refine ai rfl ?_
   exact hq
  ·cases hc
theorem L6 (hO:O 91=none)(hV:O 97=some ml){s:St}{b o n k m i c N ky:Nat}{t ty:Tr AV}{old new:List AV}{xy:Bool}{cy:Nat}(h:oP 1 s b o n k m i c N ky t ty old new):
  Ca X O (.fn 91) [.slc (some (b,o,1)) n m true, .int .i64 (i:Int), .slc (some (c,0,1)) k cy xy] s (vN 1 b o n k m N (old.take (i*1)++new++old.drop (i*1)) s):=by
 have hi:=h.i0
 by_cases e:i=n
 ·subst e;exact GN hO h
 ·by_cases hm:n+k≤m
  ·exact EZ hO hV h (by omega) hm
  ·exact E1 hO h (by omega) (by omega)
end
end Go.Proofs.Ytofohkdkpbigiaa
end
section
namespace Go.Am
theorem VRs.Qc {ι:Inj}{a b c:AV}{cargs:Array Value}(h:VRs ι [a,b,c] cargs.toList):∃ca cb cc,cargs= #[ca,cb,cc]∧VR ι a ca∧VR ι b cb∧VR ι c cc:=by
 obtain⟨cl⟩:=cargs
 match cl,h with
 |[ca,cb,cc],h=>simp only[VRs,and_true] at h;exact⟨ca,cb,cc,rfl,h.1,h.2.1,h.2.2⟩
 |[],h=>simp[VRs] at h
 |[_],h=>simp[VRs] at h
 |[_,_],h=>simp[VRs] at h
 | _::_::_::_::_,h=>simp[VRs] at h
theorem Dw {n:Nat}{l:List AV}(h:l.all (xA n)=true):aX l=true:=by
 induction l with
 |nil=>rfl
 |cons a l ih=>
  rw[List.all_cons,Bool.and_eq_true] at h
  simp only[aX,ih h.2,Bool.and_true]
  cases a<;>first|rfl|(have:=h.1;simp[xA] at this)
noncomputable def HB (t:Tr AV)(n:Nat):Tr AV:=Tr.of ((List.range n).map fun j=>(t.get j).getD .top)
theorem tk {t:Tr AV}{n j:Nat}:(HB t n).get j=if j<n then some ((t.get j).getD .top) else none:=by
 unfold HB
 rw[df,List.getElem?_map]
 by_cases h:j<n
 ·rw[List.getElem?_range h,if_pos h];rfl
 ·rw[List.getElem?_eq_none (by simpa using h),if_neg h];rfl
section
variable {P:Program}{X:Ctx}
theorem Ej (hX:dC P X)(hF:∀f fn,X.fns.get f=some fn→qN fn=true){O1:bk}(hO:oI P O1){f:FuncId}{es:Nat}(hes:0<es)(hO1:O1 f=none)
  (hca:∀ {s:St} {b o n k m i c N ky:Nat} {t ty:Tr AV} {old new:List AV} {xy:Bool} {cy:Nat},oP es s b o n k m i c N ky t ty old new→Ca X O1 (.fn f) [.slc (some (b,o,es)) n m true, .int .i64 (i:Int), .slc (some (c,0,es)) k cy xy] s (vN es b o n k m N (old.take (i*es)++new++old.drop (i*es)) s)):
  fG P f (lM es):=by
 intro args s r hr ι w cargs hv hH
 unfold lM at hr
 split at hr
 ·rename_i b off e n cp x i y
  split at hr
  ·rename_i hcond
   simp only[Bool.and_eq_true] at hcond
   obtain⟨he,hap,hlw⟩:=hcond
   have he:=(Nat.beq_eq.mp he).symm
   subst he
   split at hr
   ·rename_i t k0 hgb
    obtain⟨ca,cb0,cc,rfl,ha,hi,hy⟩:=hv.Qc
    unfold zX at hap
    split at hap
    ·rename_i c e' kk cy xy
     simp only[Bool.and_eq_true] at hap
     have hbc:b≠c:=fun e=>by rw[e] at hap;simp at hap
     have he':=(Nat.beq_eq.mp hap.2).symm
     subst he'
     simp only[wN] at hlw
     cases hgc:s.h.get c with
     |none=>rw[hgc] at hlw;cases hlw
     |some ab=>
      rw[hgc] at hlw
      cases ab with
      |cells ty ky=>
       have hky:=Nat.blt_eq.mp hlw
       cases hsrc:bb s es (.slc (some (c,0,es)) kk cy xy) with
       |none=>rw[hsrc] at hr;cases hr
       |some mn=>
        obtain⟨m,new⟩:=mn
        rw[hsrc] at hr
        simp only[Cu,Gf] at hr
        cases hold:ldL t off (n*es) with
        |none=>rw[hold] at hr;cases hr
        |some old=>
         rw[hold] at hr
         cases hq:(Nat.ble i n&& (Nat.ble (n+m) 1000000&& (Nat.blt 0 m&&Nat.blt 0 n))) with
         |false=>rw[hq] at hr;cases hr
         |true=>
          rw[hq] at hr
          simp only[Bool.and_eq_true] at hq
          obtain⟨q1,q2,q3,q4⟩:=hq
          have q1:=Nat.ble_eq.mp q1
          have q2:=Nat.ble_eq.mp q2
          have q3:=Nat.blt_eq.mp q3
          have q4:=Nat.blt_eq.mp q4
          cases hlow:((old++new).all (xA s.nx)&&Nat.beq new.length (m*es)) with
          |false=>simp only[hlow] at hr;cases hr
          |true=>
           simp only[hlow,Option.some.injEq] at hr
           subst hr
           simp only[Bool.and_eq_true] at hlow
           have hnl:=Nat.beq_eq.mp hlow.2
           have hlo:=hlow.1
           rw[List.all_append,Bool.and_eq_true] at hlo
           have hoo:=Dw hlo.1
           have hon:=Dw hlo.2
           have hkm:kk=m∧ldL ty 0 (m*es)=some new:=by
            simp only[bb] at hsrc
            split at hsrc
            ·simp only[Option.some.injEq,Prod.mk.injEq] at hsrc;omega
            ·rw[show s.cells c=some (ty,ky) from fp hgc] at hsrc
             simp only at hsrc
             cases hl:ldL ty 0 (kk*es) with
             |none=>rw[hl] at hsrc;cases hsrc
             |some l=>
              rw[hl] at hsrc
              simp only[Option.some.injEq,Prod.mk.injEq] at hsrc
              obtain⟨rfl,rfl⟩:=hsrc
              exact⟨rfl,hl⟩
           obtain⟨rfl,hkn⟩:=hkm
           have hol:=eM hold
           simp only[VR] at ha
           obtain⟨cb,d,o2,mm,hιb,rfl,ho2,hncp,hcpm,_,hroom⟩:=ha
           have ho2:=ho2 (.inl (by omega))
           subst ho2
           obtain⟨cs,el,fz,w1,w2,w3,w4⟩:=hH.br b cb d _ hιb hgb
           have hpos:0<n*es:=Nat.mul_pos q4 hes
           have hend:off+n*es≤k0:=by
            have h1:=(aR.mp hold).2 (n*es- 1) (old[n*es- 1]'(by omega)) (List.getElem?_eq_getElem (by omega))
            have:=(w3 _ _ h1).1
            omega
           have hnk:(n+kk)*es=n*es+kk*es:=Nat.add_mul _ _ _
           let N2:=off+min mm (n+kk)*es
           have hN2a:N2≤off+(n+kk)*es:=Nat.add_le_add_left (Nat.mul_le_mul_right _ (Nat.min_le_right _ _)) _
           have hN2b:N2≤off+mm*es:=Nat.add_le_add_left (Nat.mul_le_mul_right _ (Nat.min_le_left _ _)) _
           have hN2c:off+n*es≤N2:=Nat.add_le_add_left (Nat.mul_le_mul_right _ (Nat.le_min.mpr ⟨by omega,by omega⟩)) _
           let t2:=HB t N2
           let N':=k0+kk*es
           have hbr2:BR P ι w cb d (.cells t2 N'):=by
            refine⟨cs,el,fz,w1,w2,fun j v hj=>?_,fun hw=>w4 (by show k0<jK;have:k0+kk*es<jK:=hw;omega)⟩
            rw[show t2.get j=_ from tk] at hj
            split at hj
            ·rename_i hjn
             cases hj
             have hj2:d.1+j<d.2:=by omega
             refine⟨by show j<k0+kk*es;omega,hj2,?_⟩
             cases ht:t.get j with
             |none=>exact⟨cs[d.1+j]'((w2 _ hj2).1),Array.getElem?_eq_getElem _,by simp[VR]⟩
             |some u=>exact(w3 j u ht).2.2
            ·cases hj
           let s1:St:={s with h:=s.h.put b (.cells t2 N')}
           obtain⟨hH1,hE1⟩:=hH.put (w':=w) hιb hgb (Kin.refl _) rfl (fun _ _=>rfl) hbr2
           have lb:=hH.dom b _ hιb
           simp only[VR] at hy
           obtain⟨ccb,cd,co,cm,hιc,rfl,cy1,cy2,cy3,cy4,cy5⟩:=hy
           have lc:=hH.dom c _ hιc
           have hins:oP es s1 b off n kk mm i c N' ky t2 ty old new:=by
            refine⟨bu,(aS (Ne.symm hbc)).trans hgc,hbc,?_,hkn,hoo,hon,fun hm j hj=>?_,q3,q4,q1,by omega,q2,hky,lb,lc⟩
            ·refine aR.mpr ⟨hol,fun j u hj=>?_⟩
             have h1:=(aR.mp hold).2 j u hj
             have:=(List.getElem?_eq_some_iff.mp hj).1
             rw[show t2.get (off+j)=_ from tk,if_pos (by omega),h1];rfl
            ·have:N2=off+(n+kk)*es:=by show off+min mm (n+kk)*es=_;rw[Nat.min_eq_right hm]
             exact⟨_,by rw[show t2.get (off+j)=_ from tk,if_pos (by omega)]⟩
           obtain⟨nn,r1,hrun,v0,s0,t',rfl,hmod,hsh,hcases⟩:=hca (xy:=xy) (cy:=cy) hins
           have hrun':jr X O1 nn f [.slc (some (b,off,es)) n mm true, .int .i64 (i:Int), .slc (some (c,0,es)) kk cy xy] s1=some (.ret v0 s0):=by
            simpa only[cn,fF,hO1,jr] using hrun
           have hvs:VRs ι [.slc (some (b,off,es)) n mm true, .int .i64 (i:Int), .slc (some (c,0,es)) kk cy xy] (#[.slice (some ⟨cb,d.1+off,none⟩) n mm,cb0, .slice (some ⟨ccb,co,none⟩) kk cm]:Array Value).toList:=by
            simp only[VRs,VR,and_true]
            refine⟨⟨cb,d,_,mm,hιb,rfl,fun _=>rfl,by omega,Nat.le_refl _,fun _=>rfl,hroom⟩,?_,⟨ccb,cd,co,cm,hιc,rfl,cy1,cy2,cy3,cy4,cy5⟩⟩
            simpa[VR] using hi
           obtain⟨g1,g2⟩:=kO hX hF hO nn hrun' hvs hH1
           refine .inl ⟨g1,CallsIn.mono g2 fun e w' hp=>?_⟩
           have hres:(old.take (i*es)++new++old.drop (i*es)).length=(n+kk)*es:=by
            have:i*es≤n*es:=Nat.mul_le_mul_right _ q1
            simp only[List.length_append,List.length_take,List.length_drop];omega
           generalize old.take (i*es)++new++old.drop (i*es)=res at hcases hres ⊢
           have live:∀q ab,(((s.h.del b).put s.nx (.cells (Tr.of res) ((n+kk)*es+cf N'))).get q=some ab)→(q=s.nx∧AB.cells (Tr.of res) ((n+kk)*es+cf N')=ab)∨(q≠s.nx∧q≠b∧s.h.get q=some ab):=fun q ab hg=>by
            rcases Tr.dB hg with a|⟨a,hg⟩
            ·exact .inl a
            ·exact .inr ⟨a,Tr.gz hg⟩
           have same:∀q ab,q<s.nx→q≠b→s.h.get q=some ab→s0.h.get q=some ab:=fun q ab hq hb hg=>by
            rw[hmod.old q hq hb]
            exact(aS hb).trans hg
           cases e with
           |outgrown=>exact hp.elim
           |panicked ch=>obtain⟨_,_,e,_⟩:=hp;cases e
           |returned cv=>
            obtain⟨v1,s2,e,κ,hvr,hHk,hE⟩:=hp
            cases e
            have hgl:s0.gl=s.gl:=hmod.gl
            have ownS:∀g,Own ι s1 g→Own ι s g:=fun g ⟨q,dd,ab,x1,x2⟩=>by
             by_cases hqb:q=b
             ·subst hqb;exact⟨q,dd,_,x1,hgb⟩
             ·exact⟨q,dd,ab,x1,by rw[←x2];exact(aS hqb).symm⟩
            rcases hcases with⟨hm,rfl,hnx,hg0,hld⟩|⟨rfl,hnx,hg0,hld⟩
            ·
             have hκ:κ=ι:=by
              funext q
              rcases Nat.lt_or_ge q s.nx with h|h
              ·exact hE.old q h
              ·cases h1:κ q with
               |some z=>have:=hHk.dom q z h1;have:s0.nx=s.nx:=hnx;omega
               |none=>
                cases h2:ι q with
                |some z=>have:=hH.dom q z h2;omega
                |none=>rfl
             subst hκ
             let κ2:Inj:=κ.at s.nx (cb,(d.1+off,d.2))
             have hle:κ.le κ2:=Inj.yk hH.fresh
             have oldκ:∀q x,q≠s.nx→κ2 q=some x→κ q=some x:=fun q x hq hx=>by
              simp only[κ2,Inj.at] at hx;rwa [if_neg hq] at hx
             have atn:∀x,κ2 s.nx=some x→(cb,(d.1+off,d.2))=x:=fun x hx=>by
              simp only[κ2,Inj.at,if_true,Option.some.injEq] at hx;exact hx
             simp only[VR] at hvr
             obtain⟨cb',d',o',m',v2,rfl,v3,v4,v5,v6,v7⟩:=hvr
             rw[hιb] at v2
             cases v2
             have v3:=v3 (.inr trivial)
             subst v3
             obtain⟨ks,ke,kz,z1,z2,z3,z4⟩:=hHk.br b cb d _ hιb hg0
             have hOw:∀g,Own κ2 {s with h:=(s.h.del b).put s.nx (.cells (Tr.of res) ((n+kk)*es+cf N')),nx:=s.nx+1,sh:=s.nx::s.sh} g→Own κ s g:=by
              rintro g ⟨q,dd,ab,x1,x2⟩
              rcases live q ab x2 with⟨rfl,_⟩|⟨y1,y2,y3⟩
              ·have:=atn _ x1
               simp only[Prod.mk.injEq] at this
               rw[←this.1]
               exact⟨b,d,_,hιb,hgb⟩
              ·exact⟨q,dd,ab,oldκ q _ y1 x1,y3⟩
             have hOw2:∀g,Own κ s g→Own κ s0 g:=by
              rintro g ⟨q,dd,ab,x1,x2⟩
              by_cases hqb:q=b
              ·subst hqb;exact⟨q,dd,_,x1,hg0⟩
              ·exact⟨q,dd,ab,x1,same q ab (hH.dom q _ x1) hqb x2⟩
             refine⟨_,_,rfl,κ2,?_,⟨fun g c hg=>?_,fun q cb' dd hx hs=>?_,fun q x hx=>?_,fun q cb' dd ab hx hg=>?_,fun q1 q2 cb' d1 d2 ab1 ab2 h1 h2 k1 k2=>?_⟩,⟨hle,Nat.le_trans hE1.size hE.size,fun cb' hcb' ho'=>?_,fun q hq=>?_,Nat.le_succ _,hE1.kin.trans hE.kin⟩⟩
             ·simp only[VR]
              exact⟨cb,(d.1+off,d.2),_,m',by simp[κ2,Inj.at],rfl,fun _=>rfl,Nat.le_refl _,by omega,fun e=>(by cases e),v7⟩
             ·obtain⟨y1,y2⟩:=hHk.gl g c (by rw[hgl];exact hg)
              exact⟨fun ho=>y1 (hOw2 g (hOw g ho)),y2⟩
             ·have hs:du q (s.nx::s.sh)=false:=hs
              exact hH.base q cb' dd (oldκ q _ (lg hs).1 hx) (lg hs).2
             ·show q<s.nx+1
              by_cases e:q=s.nx
              ·omega
              ·have:=hH.dom q x (oldκ q x e hx);omega
             ·rcases live q ab hg with⟨rfl,rfl⟩|⟨y1,y2,y3⟩
              ·have:=atn _ hx
               simp only[Prod.mk.injEq] at this
               obtain⟨rfl,rfl⟩:=this
               refine⟨ks,ke,kz,z1,z2,fun j u hj=>?_,fun hw=>z4 (Ei hw)⟩
               have hj:=Tr.df hj
               have hjl:=(List.getElem?_eq_some_iff.mp hj).1
               obtain⟨_,p2,cv',p3,p4⟩:=z3 _ _ ((aR.mp hld).2 j u hj)
               exact⟨by omega,by simp only;omega,cv',by rw[←p3];congr 1;simp only;omega,p4.mono hle⟩
              ·have hx:=oldκ q _ y1 hx
               exact(hHk.br q cb' dd ab hx (same q ab (hH.dom q _ hx) y2 y3)).frame rfl hle
             ·rcases live q1 ab1 k1 with⟨rfl,_⟩|⟨y1,y2,y3⟩<;>rcases live q2 ab2 k2 with⟨rfl,_⟩|⟨x1,x2,x3⟩
              ·rfl
              ·have e1:=atn _ h1
               simp only[Prod.mk.injEq] at e1
               have hx:=oldκ q2 _ x1 h2
               exact absurd (hHk.inj q2 b cb' d2 d _ _ hx (e1.1▸hιb) (same q2 ab2 (hH.dom q2 _ hx) x2 x3) hg0) x2
              ·have e1:=atn _ h2
               simp only[Prod.mk.injEq] at e1
               have hx:=oldκ q1 _ y1 h1
               exact absurd (hHk.inj q1 b cb' d1 d _ _ hx (e1.1▸hιb) (same q1 ab1 (hH.dom q1 _ hx) y2 y3) hg0) y2
              ·have hx1:=oldκ q1 _ y1 h1
               have hx2:=oldκ q2 _ x1 h2
               exact hHk.inj q1 q2 cb' d1 d2 _ _ hx1 hx2 (same q1 ab1 (hH.dom q1 _ hx1) y2 y3) (same q2 ab2 (hH.dom q2 _ hx2) x2 x3)
             ·obtain⟨y1,_⟩:=hE.iV cb' hcb' (fun ho=>ho' (ownS _ ho))
              exact⟨y1,fun ho=>ho' (hOw _ ho)⟩
             ·simp only[κ2,Inj.at];rw[if_neg (by omega)]
            ·
             have hOw:∀g,Own κ {s with h:=(s.h.del b).put s.nx (.cells (Tr.of res) ((n+kk)*es+cf N')),nx:=s.nx+1,sh:=s.nx::s.sh} g→Own κ s0 g:=by
              rintro g ⟨q,dd,ab,x1,x2⟩
              rcases live q ab x2 with⟨rfl,_⟩|⟨y1,y2,y3⟩
              ·exact⟨_,dd,_,x1,hg0⟩
              ·have h1:=hHk.dom q _ x1
               have h2:s0.nx=s.nx+1:=hnx
               exact⟨q,dd,ab,x1,same q ab (by omega) y2 y3⟩
             have hs0:s0.nx=s.nx+1:=hnx
             refine⟨_,_,rfl,κ,hvr,⟨fun g c hg=>?_,fun q cb' dd hx hs=>?_,fun q x hx=>?_,fun q cb' dd ab hx hg=>?_,fun q1 q2 cb' d1 d2 ab1 ab2 h1 h2 k1 k2=>?_⟩,⟨hE.le,Nat.le_trans hE1.size hE.size,fun cb' hcb' ho'=>?_,fun q hq=>hE.old q hq,Nat.le_succ _,hE1.kin.trans hE.kin⟩⟩
             ·obtain⟨y1,y2⟩:=hHk.gl g c (by rw[hgl];exact hg)
              exact⟨fun ho=>y1 (hOw g ho),y2⟩
             ·have hs:du q (s.nx::s.sh)=false:=hs
              exact hHk.base q cb' dd hx (by rw[hsh];exact(lg hs).2)
             ·have:=hHk.dom q x hx
              show q<s.nx+1
              omega
             ·rcases live q ab hg with⟨rfl,rfl⟩|⟨y1,y2,y3⟩
              ·obtain⟨ks,ke,kz,z1,z2,z3,z4⟩:=hHk.br _ cb' dd _ hx hg0
               refine⟨ks,ke,kz,z1,z2,fun j u hj=>?_,z4⟩
               have hj:=Tr.df hj
               have:=(aR.mp hld).2 j u hj
               rw[Nat.zero_add] at this
               exact z3 _ _ this
              ·have:=hHk.dom q _ hx
               exact hHk.br q cb' dd ab hx (same q ab (by omega) y2 y3)
             ·have a1:=hHk.dom q1 _ h1
              have a2:=hHk.dom q2 _ h2
              have l1:∃ab,s0.h.get q1=some ab:=by
               rcases live q1 ab1 k1 with⟨rfl,_⟩|⟨y1,y2,y3⟩
               ·exact⟨_,hg0⟩
               ·exact⟨_,same q1 ab1 (by omega) y2 y3⟩
              have l2:∃ab,s0.h.get q2=some ab:=by
               rcases live q2 ab2 k2 with⟨rfl,_⟩|⟨y1,y2,y3⟩
               ·exact⟨_,hg0⟩
               ·exact⟨_,same q2 ab2 (by omega) y2 y3⟩
              obtain⟨_,l1⟩:=l1
              obtain⟨_,l2⟩:=l2
              exact hHk.inj q1 q2 cb' d1 d2 _ _ h1 h2 l1 l2
             ·obtain⟨y1,y2⟩:=hE.iV cb' hcb' (fun ho=>ho' (ownS _ ho))
              exact⟨y1,fun ho=>y2 (hOw _ ho)⟩
      | _=>cases hlw
    ·cases hap
   ·cases hr
  ·cases hr
 ·cases hr
end
end Go.Am
end
section
namespace Go.Proofs.Ytofohkdkpbigiaa
open Go.Am
set_option maxRecDepth 10000
set_option maxHeartbeats 1000000
set_option linter.unusedSimpArgs false
theorem y8 {a b:Nat}(ha:a<4294967296)(hb:b<4294967296):Nat.xor a b<4294967296:=Nat.xor_lt_two_pow (n:=32) ha hb
theorem B1 {a b:Nat}(ha:a<4294967296)(hb:b<4294967296):bitsOf .xor .u32 (a:Int) (b:Int)=some ((Nat.xor a b:Nat):Int):=by
 have h1:((a:Int) % (2^IntKind.u32.bits:Int)).toNat=a:=by show((a:Int) % 4294967296).toNat=a;omega
 have h2:((b:Int) % (2^IntKind.u32.bits:Int)).toNat=b:=by show((b:Int) % 4294967296).toNat=b;omega
 have h3:=y8 ha hb
 simp only[bitsOf,h1,h2]
 rw[z7 (by omega) (by omega)]
theorem HC {t:TypeId}{c:Bool}{a b:Nat}(ha:a<4294967296)(hb:b<4294967296):aU X .xor t c (.int .u32 (a:Int)) (.int .u32 (b:Int))=some (.int .u32 ((Nat.xor a b:Nat):Int)):=by
 simp only[aU,fL,jJ,B1 ha hb,if_true]
theorem G9 {t:TypeId}{c:Bool}{a:Nat}(ha:a<4294967296):aU X .xor t c (.int .u32 (a:Int)) (.int .u32 2197175160)=some (.int .u32 ((Nat.xor a 2197175160:Nat):Int)):=
 HC ha (by decide)
theorem L7 {a:Nat}(ha:a<4294967296):EW .xor (.int .u32 (a:Int))=some (.int .u32 ((Nat.xor 4294967295 a:Nat):Int)):=by
 have:=B1 (a:=4294967295) (b:=a) (by decide) ha
 show(match bitsOf .xor .u32 ((4294967295:Nat):Int) (a:Int) with|some r=>some (AV.int .u32 r)|none=>none)=_
 rw[this]
theorem II {t:TypeId}{c:Bool}{a:Nat}(ha:a<4294967296):aU X .and t c (.int .u32 (a:Int)) (.int .u32 1)=some (.int .u32 ((a % 2:Nat):Int)):=by
 have h1:((a:Int) % (2^IntKind.u32.bits:Int)).toNat=a:=by show((a:Int) % 4294967296).toNat=a;omega
 have h2:((1:Int) % (2^IntKind.u32.bits:Int)).toNat=1:=by decide
 simp only[aU,fL,jJ,bitsOf,h1,h2]
 rw[show Nat.land a 1=a % 2 from Nat.and_one_is_mod a,z7 (by omega) (by omega)]
 rfl
theorem Iw {a b:TypeId}{d:TypeDesc}{k:IntKind}{s:St}{n:Nat}(hu:X.und a=some d)(hb:X.und b=some (.int .u32))(hn:n<256):bG X a b (.int k (n:Int)) s=some (.pure (.int .u32 (n:Int))):=by
 simp only[bG,hu,hb]
 rw[z7 (by omega) (by omega)]
theorem xS (x:Str)(i:Nat):x.at i<256:=Nat.mod_lt _ (by decide)
theorem sG {c:Nat}(h:c<4294967296):nz c<4294967296:=by
 unfold nz
 have:Nat.div c 2<4294967296:=by show c/2<_;omega
 split
 ·exact y8 this (by decide)
 ·exact this
theorem xZ {c:Nat}(h:c % 2=1):nz c=Nat.xor (c/2) 2197175160:=by
 unfold nz
 rw[show Nat.mod c 2=1 from h];rfl
theorem vA {c:Nat}(h:¬c % 2=1):nz c=c/2:=by
 unfold nz
 have:Nat.mod c 2=0:=by show c % 2=0;omega
 rw[this];rfl
theorem F6 {P:Program}{X:Ctx}(hX:dC P X)(hF:∀f fn,X.fns.get f=some fn→qN fn=true){O1:bk}(hO:oI P O1){f:FuncId}(hO1:O1 f=none){g:List AV→St→Option CR}(h:∀args s r,g args s=some r→Ca X O1 (.fn f) args s fun q=>q=r):fG P f g:=by
 intro args s r hr ι w cargs hv hH
 obtain⟨n,q,h1,rfl⟩:=h args s r hr
 have h2:jr X O1 n f args s=some q:=by simpa only[cn,fF,hO1,jr] using h1
 exact .inl (kO hX hF hO n h2 hv hH)
section
variable {O:bk}
theorem Kb:X.fns.get 64=some Try.f64:=by kernel_rfl
theorem Ku (ho:O 64=none){s:St}{t:Str}(hl:t.len≤1000000000):Ca X O (.fn 64) [.str t] s fun r=>r= .ret (.int .u32 (mf t:Int)) s:=by
 refine aZ ho Kb rfl ?_
 unfold aB aB
 repeat(first|refine uS ?_ |refine aa rfl ?_ |refine ad (by simp(disch:=omega) only[uB,uT,aK aE];exact rfl) ?_)
 let I:Nat→Sl→St→Prop:=fun i L s'=>s'=s∧i≤t.len∧∃c:Nat,c<4294967296∧uc t (t.len- i) i c=Bk t∧L=[(0, .str t),(3, .int .u32 (c:Int)),(6, .int .i64 (t.len:Int)),(7, .int .i64 (i:Int))]
 refine WL.less (M:=[(0, .str t),(3, .int .u32 ((4294967295:Nat):Int)),(6, .int .i64 (t.len:Int)),(7, .int .i64 ((0:Nat):Int))]) ?_ rfl
 refine bm I (fun i=>t.len- i) ?_ t.len 0 _ s (by simp) ⟨rfl,Nat.zero_le _,4294967295,by decide,rfl,rfl⟩
 rintro i L s' ⟨rfl,hi,c,hc,hcc,rfl⟩
 repeat(first|refine uS ?_ |refine aa rfl ?_ |refine ad (by simp(disch:=omega) only[uB,uT,aK aE];exact rfl) ?_)
 refine uJ [0,3,6,7,8] ?_
 refine ae rfl rfl (fun hq=>?_) (fun hq=>?_)
 ·simp at hq
  have hx:=y8 hc (Nat.lt_trans (xS t i) (by decide:256<4294967296))
  have hstep:uc t (t.len- (i+1)) (i+1) (gH 8 (Nat.xor c (t.at i)))=Bk t:=by
   rw[←hcc,show t.len- i=(t.len- (i+1))+1 by omega]
   simp only[uc,pC]
  repeat(first|refine uS ?_ |refine aa rfl ?_ |refine ad (by simp(disch:=omega) only[uB,uT,AU aE,Int.toNat_natCast,Iw gT sH (xS t i),HC hc (Nat.lt_trans (xS t i) (by decide:256<4294967296))];exact rfl) ?_)
  let J:Nat→Sl→St→Prop:=fun j L s2=>s2=s'∧j≤8∧∃d:Nat,d<4294967296∧gH (8- j) d=gH 8 (Nat.xor c (t.at i))∧L=[(0, .str t),(3, .int .u32 (d:Int)),(6, .int .i64 (t.len:Int)),(7, .int .i64 (i:Int)),(16, .int .i64 (j:Int))]
  refine WL.less (M:=[(0, .str t),(3, .int .u32 ((Nat.xor c (t.at i):Nat):Int)),(6, .int .i64 (t.len:Int)),(7, .int .i64 (i:Int)),(16, .int .i64 ((0:Nat):Int))]) ?_ rfl
  refine bm J (fun j=>8- j) ?_ 8 0 _ _ (by simp) ⟨rfl,Nat.zero_le _,_,hx,rfl,rfl⟩
  rintro j L s2 ⟨rfl,hj,d,hd,hdd,rfl⟩
  refine uG ?_
  refine uJ [0,3,6,7,16,17] ?_
  refine ae rfl rfl (fun hq2=>?_) (fun hq2=>?_)
  ·simp at hq2
   have hs8:gH (8- (j+1)) (nz d)=gH 8 (Nat.xor c (t.at i)):=by
    rw[←hdd,show 8- j=(8- (j+1))+1 by omega]
    simp only[gH,pC]
   have hsh:∀ {c:Bool},aU X .shr 110 c (.int .u32 (d:Int)) (.int .u64 1)=some (.int .u32 ((d/2:Nat):Int)):=fun{c}=>lW (m:=1) (by decide)
   have hsi:∀ {c:Bool},aU X .shr 110 c (.int .u32 (d:Int)) (.int .i64 1)=some (.int .u32 ((d/2:Nat):Int)):=fun{c}=>lW (m:=1) (by decide)
   have hd2:d/2<4294967296:=by omega
   repeat(first|refine uS ?_ |refine aa rfl ?_ |refine ad (by simp(disch:=omega) only[uB,uT,II hd];exact rfl) ?_)
   refine uJ [0,3,6,7,16,20] ?_
   refine ae rfl rfl (fun hb=>?_) (fun hb=>?_)
   ·have ho:d % 2=1:=by simp at hb;omega
    repeat(first|refine uS ?_ |refine aa rfl ?_ |refine ad (by simp(disch:=omega) only[uB,uT,hsh,hsi,G9 hd2];exact rfl) ?_)
    exact aM (j+1) [(0, .str t),(3, .int .u32 (nz d:Int)),(6, .int .i64 (t.len:Int)),(7, .int .i64 (i:Int)),(16, .int .i64 ((j+1:Nat):Int))] ⟨rfl,by omega,_,sG hd,hs8,rfl⟩ (by show 8- (j+1)<8- j;omega) (by rw[xZ ho];simp[aI,aD])
   ·have ho:¬d % 2=1:=by simp at hb;omega
    repeat(first|refine uS ?_ |refine aa rfl ?_ |refine ad (by simp(disch:=omega) only[uB,uT,hsh,hsi];exact rfl) ?_)
    exact aM (j+1) [(0, .str t),(3, .int .u32 (nz d:Int)),(6, .int .i64 (t.len:Int)),(7, .int .i64 (i:Int)),(16, .int .i64 ((j+1:Nat):Int))] ⟨rfl,by omega,_,sG hd,hs8,rfl⟩ (by show 8- (j+1)<8- j;omega) (by rw[vA ho];simp[aI,aD])
  ·simp at hq2
   have:j=8:=by omega
   subst this
   have hde:d=gH 8 (Nat.xor c (t.at i)):=hdd
   refine uG ?_
   exact aM (i+1) [(0, .str t),(3, .int .u32 (d:Int)),(6, .int .i64 (t.len:Int)),(7, .int .i64 ((i+1:Nat):Int))] ⟨rfl,by omega,d,hd,by rw[hde];exact hstep,rfl⟩ (by show t.len- (i+1)<t.len- i;omega) (by simp[aI,aD])
 ·simp at hq
  have:i=t.len:=by omega
  subst this
  have hce:c=Bk t:=by rw[←hcc,Nat.sub_self];rfl
  repeat(first|refine uS ?_ |refine aa rfl ?_ |refine ad (by simp(disch:=omega) only[uB,uT,L7 hc];exact rfl) ?_)
  refine ai rfl ?_
  rw[hce];rfl
theorem JN:X.fns.get 41=some Try.f41:=by kernel_rfl
theorem KY (ho:O 41=none){s:St}{t:Str}(hl:t.len≤1000000000):Ca X O (.fn 41) [.str t] s fun r=>r= .ret (.int .u32 (mf t:Int)) s:=by
 refine aZ ho JN rfl ?_
 unfold aB aB
 repeat(first|refine uS ?_ |refine aa rfl ?_ |refine ad (by simp(disch:=omega) only[uB,uT,aK aE];exact rfl) ?_)
 let I:Nat→Sl→St→Prop:=fun i L s'=>s'=s∧i≤t.len∧∃c:Nat,c<4294967296∧uc t (t.len- i) i c=Bk t∧L=[(0, .str t),(3, .int .u32 (c:Int)),(4, .int .i64 (i:Int))]
 refine WL.less (M:=[(0, .str t),(3, .int .u32 ((4294967295:Nat):Int)),(4, .int .i64 ((0:Nat):Int))]) ?_ rfl
 refine bm I (fun i=>t.len- i) ?_ t.len 0 _ s (by simp) ⟨rfl,Nat.zero_le _,4294967295,by decide,rfl,rfl⟩
 rintro i L s' ⟨rfl,hi,c,hc,hcc,rfl⟩
 repeat(first|refine uS ?_ |refine aa rfl ?_ |refine ad (by simp(disch:=omega) only[uB,uT,aK aE];exact rfl) ?_)
 refine uJ [0,3,4,9] ?_
 refine ae rfl rfl (fun hq=>?_) (fun hq=>?_)
 ·simp at hq
  have hx:=y8 hc (Nat.lt_trans (xS t i) (by decide:256<4294967296))
  have hstep:uc t (t.len- (i+1)) (i+1) (gH 8 (Nat.xor c (t.at i)))=Bk t:=by
   rw[←hcc,show t.len- i=(t.len- (i+1))+1 by omega]
   simp only[uc,pC]
  repeat(first|refine uS ?_ |refine aa rfl ?_ |refine ad (by simp(disch:=omega) only[uB,uT,AU aE,Int.toNat_natCast,Iw gT sH (xS t i),HC hc (Nat.lt_trans (xS t i) (by decide:256<4294967296))];exact rfl) ?_)
  let J:Nat→Sl→St→Prop:=fun j L s2=>s2=s'∧j≤8∧∃d:Nat,d<4294967296∧gH (8- j) d=gH 8 (Nat.xor c (t.at i))∧L=[(0, .str t),(3, .int .u32 (d:Int)),(4, .int .i64 (i:Int)),(5, .int .i64 (j:Int))]
  refine WL.less (M:=[(0, .str t),(3, .int .u32 ((Nat.xor c (t.at i):Nat):Int)),(4, .int .i64 (i:Int)),(5, .int .i64 ((0:Nat):Int))]) ?_ rfl
  refine bm J (fun j=>8- j) ?_ 8 0 _ _ (by simp) ⟨rfl,Nat.zero_le _,_,hx,rfl,rfl⟩
  rintro j L s2 ⟨rfl,hj,d,hd,hdd,rfl⟩
  refine uG ?_
  refine uJ [0,3,4,5,19] ?_
  refine ae rfl rfl (fun hq2=>?_) (fun hq2=>?_)
  ·simp at hq2
   have hs8:gH (8- (j+1)) (nz d)=gH 8 (Nat.xor c (t.at i)):=by
    rw[←hdd,show 8- j=(8- (j+1))+1 by omega]
    simp only[gH,pC]
   have hsh:∀ {c:Bool},aU X .shr 110 c (.int .u32 (d:Int)) (.int .u64 1)=some (.int .u32 ((d/2:Nat):Int)):=fun{c}=>lW (m:=1) (by decide)
   have hsi:∀ {c:Bool},aU X .shr 110 c (.int .u32 (d:Int)) (.int .i64 1)=some (.int .u32 ((d/2:Nat):Int)):=fun{c}=>lW (m:=1) (by decide)
   have hd2:d/2<4294967296:=by omega
   repeat(first|refine uS ?_ |refine aa rfl ?_ |refine ad (by simp(disch:=omega) only[uB,uT,II hd];exact rfl) ?_)
   refine uJ [0,3,4,5,24] ?_
   refine ae rfl rfl (fun hb=>?_) (fun hb=>?_)
   ·have ho:d % 2=1:=by simp at hb;omega
    repeat(first|refine uS ?_ |refine aa rfl ?_ |refine ad (by simp(disch:=omega) only[uB,uT,hsh,hsi,G9 hd2];exact rfl) ?_)
    exact aM (j+1) [(0, .str t),(3, .int .u32 (nz d:Int)),(4, .int .i64 (i:Int)),(5, .int .i64 ((j+1:Nat):Int))] ⟨rfl,by omega,_,sG hd,hs8,rfl⟩ (by show 8- (j+1)<8- j;omega) (by rw[xZ ho];simp[aI,aD])
   ·have ho:¬d % 2=1:=by simp at hb;omega
    repeat(first|refine uS ?_ |refine aa rfl ?_ |refine ad (by simp(disch:=omega) only[uB,uT,hsh,hsi];exact rfl) ?_)
    exact aM (j+1) [(0, .str t),(3, .int .u32 (nz d:Int)),(4, .int .i64 (i:Int)),(5, .int .i64 ((j+1:Nat):Int))] ⟨rfl,by omega,_,sG hd,hs8,rfl⟩ (by show 8- (j+1)<8- j;omega) (by rw[vA ho];simp[aI,aD])
  ·simp at hq2
   have:j=8:=by omega
   subst this
   have hde:d=gH 8 (Nat.xor c (t.at i)):=hdd
   refine uG ?_
   exact aM (i+1) [(0, .str t),(3, .int .u32 (d:Int)),(4, .int .i64 ((i+1:Nat):Int))] ⟨rfl,by omega,d,hd,by rw[hde];exact hstep,rfl⟩ (by show t.len- (i+1)<t.len- i;omega) (by simp[aI,aD])
 ·simp at hq
  have:i=t.len:=by omega
  subst this
  have hce:c=Bk t:=by rw[←hcc,Nat.sub_self];rfl
  repeat(first|refine uS ?_ |refine aa rfl ?_ |refine ad (by simp(disch:=omega) only[uB,uT,L7 hc];exact rfl) ?_)
  refine ai rfl ?_
  rw[hce];rfl
theorem Dx {P:Program}(hX:dC P X)(hF:∀f fn,X.fns.get f=some fn→qN fn=true){f:FuncId}(h:∀ {O:bk} {s:St} {t:Str},O f=none→t.len≤1000000000→Ca X O (.fn f) [.str t] s fun r=>r= .ret (.int .u32 (mf t:Int)) s):fG P f mQ:=
 F6 hX hF (G6 P) rfl fun args s r hr=>by
  unfold mQ at hr
  split at hr
  ·split at hr
   ·rename_i hl
    cases hr
    exact h rfl (Nat.ble_eq.mp hl)
   ·cases hr
  ·cases hr
end
end Go.Proofs.Ytofohkdkpbigiaa
end
section
namespace Go.Am
open Go.Proofs (encStr bytesLess_eq)
open Go.WideMaps (keyOf_string_mk)
open Go.RowKit (Below)
def bs (b:ByteArray):List UInt8:=b.data.toList
theorem lt_iff (a b:ByteArray):(Str.of a).lt (Str.of b)=decide (bs a<bs b):=by
 rw[Str.Mg,bytesLess_eq];rfl
structure Pj (P:Program)(S kt:Nat)(kfs:List Nat):Prop where
 enter:∀args w,(callFunc S args).run P w= .ok (.enter S args) w
 und:P.underlying kt=some .string
 keys:∀g,du g kfs=true→∀ (Bm b nn:Nat) (D0:DataW Unit) (R:Value→Option (DataW Unit×List MemPlace)) (w:World),Bm<w.heap.size→w.cell? ⟨Bm,0,none⟩=some (.map (some b))→w.ownsMap P kt R b nn D0→Maps.size D0≤maxLen→Maps.size D0*16≤140737488355328→
  CallsIn (FE P none) 0 P S #[.func (.func g) #[] #[.pointer (some ⟨Bm,0,none⟩)]] w fun e w'=>∃ (v:Value) (ss:List (List UInt8)),e= .returned v∧ss.Perm (strKeys D0)∧w'.ownsRow w.heap.size kt 1 v ss.length ((ss.mergeSort leB).map encStr)∧(v= .slice none 0 0↔ss=[])∧Below w.heap.size w w'
end Go.Am
end
