/-
  A part of the texts.
-/
import Derived.Test.YtofohkdkpbigiaaQar
section
namespace Go.Am
def canon (f:Nat):Nat:=if 9218868437227405312<f % 9223372036854775808 then 9221120237041090560 else if f % 9223372036854775808=0 then 0 else f
theorem G1 (f:Nat):FloatKind.f64.format.read f=(let neg:=f/9223372036854775808 % 2==1
 let rung:=f % 9223372036854775808
 if rung<4503599627370496 then .number neg rung FloatKind.f64.format.leastPlace
 else if rung<9218868437227405312 then .number neg (4503599627370496+rung % 4503599627370496) (FloatKind.f64.format.leastPlace+(rung/4503599627370496- 1:Nat))
 else if rung=9218868437227405312 then .infinity neg
 else .nan neg (rung- 9218868437227405312)):=rfl
theorem Ha (d:Ieee.Datum):(d.order d==some Ordering.eq)= !d.isNaN:=by
 cases d with
 |number s m i=>simp[Ieee.Datum.order,Ieee.Datum.isNaN]
 |infinity s=>cases s<;>rfl
 |nan s t=>rfl
theorem rj (f:Nat):(FloatKind.f64.format.order f f==some Ordering.eq)= !decide (9218868437227405312<f % 9223372036854775808):=by
 unfold Ieee.Format.order
 rw[Ha,G1]
 simp only
 by_cases h1:f % 9223372036854775808<4503599627370496
 ·rw[if_pos h1];simp[Ieee.Datum.isNaN];omega
 ·rw[if_neg h1]
  by_cases h2:f % 9223372036854775808<9218868437227405312
  ·rw[if_pos h2];simp[Ieee.Datum.isNaN];omega
  ·rw[if_neg h2]
   by_cases h3:f % 9223372036854775808=9218868437227405312
   ·rw[if_pos h3];simp[Ieee.Datum.isNaN];omega
   ·rw[if_neg h3];simp[Ieee.Datum.isNaN];omega
theorem tS {s:Bool}{m k:Nat}:(Ieee.signed s m k=0)↔m=0:=by
 unfold Ieee.signed
 rw[Nat.shiftLeft_eq]
 have h2:0<2^k:=Nat.two_pow_pos k
 generalize hN:m*2^k=N
 have hz:N=0↔m=0:=by
  rw[←hN,Nat.mul_eq_zero]
  exact⟨fun h=>h.elim id (fun h=>by omega), .inl⟩
 rw[←hz]
 cases s<;>simp
theorem Cw (f:Nat):(FloatKind.f64.format.order f 0==some Ordering.eq)=decide (f % 9223372036854775808=0):=by
 have h0:FloatKind.f64.format.read 0= .number false 0 FloatKind.f64.format.leastPlace:=rfl
 have key:∀s m i,((Ieee.Datum.number s m i).order (.number false 0 FloatKind.f64.format.leastPlace)==some Ordering.eq)=decide (m=0):=by
  intro s m i
  simp only[Ieee.Datum.order]
  rw[show Ieee.signed false 0 (FloatKind.f64.format.leastPlace- min i FloatKind.f64.format.leastPlace).toNat=0 from tS.mpr rfl]
  rw[Bool.eq_iff_iff]
  simp[tS]
 unfold Ieee.Format.order
 rw[h0,G1]
 simp only
 by_cases h1:f % 9223372036854775808<4503599627370496
 ·rw[if_pos h1,key]
 ·rw[if_neg h1]
  by_cases h2:f % 9223372036854775808<9218868437227405312
  ·rw[if_pos h2,key];simp;omega
  ·rw[if_neg h2]
   by_cases h3:f % 9223372036854775808=9218868437227405312
   ·rw[if_pos h3,h3]
    cases(f/9223372036854775808 % 2==1)<;>rfl
   ·rw[if_neg h3]
    have:¬f % 9223372036854775808=0:=by omega
    simp[this,Ieee.Datum.order]
section
variable {X:Ctx}
theorem Pb {t:TypeId}{c:Bool}{a b:Nat}:aW X .neq t c (.flt .f64 a) (.flt .f64 b)=some (.bool (!(FloatKind.f64.format.order a b==some Ordering.eq))):=by
 simp[aW,gh,BY,bne]
theorem PW {t:TypeId}{c:Bool}{a b:Nat}:aW X .eql t c (.flt .f64 a) (.flt .f64 b)=some (.bool (FloatKind.f64.format.order a b==some Ordering.eq)):=by
 simp[aW,gh,BY]
end
end Go.Am
end
section
namespace Go.Proofs.Ytofohkdkpbigiaa
open Go.Am
set_option maxRecDepth 10000
set_option maxHeartbeats 1000000
set_option linter.unusedSimpArgs false
def fe (v:Vl):Bool:=
 if v.kind=0 then decide (v.n=0)&& (decide (v.f=0)&&v.s.beq bu)
 else if v.kind=1 then(decide (v.n=0)||decide (v.n=1))&& (decide (v.f=0)&&v.s.beq bu)
 else if v.kind=2 then decide (v.f=0)&&v.s.beq bu
 else if v.kind=3 then decide (v.n=0)&& (v.s.beq bu&&decide (canon v.f=v.f))
 else if v.kind=4∨v.kind=5 then decide (v.n=0)&& (decide (v.f=0)&&decide (v.s.len≤40))
 else false
section
variable {O:bj}
theorem IX:X.fns.get 80=some Try.f80:=by kernel_rfl
theorem Kd:X.fns.get 67=some Try.f67:=by kernel_rfl
theorem It:X.fns.get 81=some Try.f81:=by kernel_rfl
theorem CT (ho:O 80=none)(hf:O 92=some qf){s:St}{f:Nat}(hlt:f<18446744073709551616):
  Ca X O (.fn 80) [.int .u64 (f:Int)] s fun z=>z= .ret (.int .u64 (canon f:Int)) s:=by
 refine bb ho IX rfl ?_
 unfold aD aD
 refine uG ?_
 refine aj (ku (Q:=fun z=>z= .ret (.flt .f64 f) s) hf rfl rfl) ?_ ?_
 ·rintro v s' e
  cases e
  refine uL ?_
  have hs:FloatKind.f64.format.order f f=some Ordering.eq↔¬9218868437227405312<f % 9223372036854775808:=by
   have:=rj f
   rw[Bool.eq_iff_iff] at this
   simpa using this
  have hz:=Cw f
  unfold canon
  repeat(first|refine uS ?_ |refine aa rfl ?_ |refine ad (by simp(disch:=omega) only[uB,uT,Pb];exact rfl) ?_)
  refine uJ [0,3,6] ?_
  refine ae rfl rfl (fun hc=>?_) (fun hc=>?_)
  ·refine uG ?_
   refine ai rfl ?_
   rw[rj] at hc
   rw[if_pos (by simpa using hc)];rfl
  ·rw[rj] at hc
   repeat(first|refine uS ?_ |refine aa rfl ?_ |refine ad (by simp(disch:=omega) only[uB,uT,PW];exact rfl) ?_)
   refine uJ [0,3,10] ?_
   refine ae rfl rfl (fun hc2=>?_) (fun hc2=>?_)
   ·refine uG ?_
    refine ai rfl ?_
    rw[hz] at hc2
    rw[if_neg (by simpa using hc),if_pos (by simpa using hc2)];rfl
   ·refine uG ?_
    refine ai rfl ?_
    rw[hz] at hc2
    rw[if_neg (by simpa using hc),if_neg (by simpa using hc2)];rfl
 ·rintro v s' e
  cases e
structure OD (O:bj):Prop where
 canon:O 80=none
 bits:O 92=some qf
 vMay:O 67=none
theorem wz {c:Bool}{k n f k' n' f':Int}{s s':Str}:aW X .eql 77 c (.agg [.int .i64 k, .int .i64 n, .int .u64 f, .str s]) (.agg [.int .i64 k', .int .i64 n', .int .u64 f', .str s'])=some (.bool (decide (k=k')&& (decide (n=n')&& (decide (f=f')&&s.beq s')))):=by
 refine PS ?_
 rw[Bn fL (by kernel_rfl)]
 simp only[Array.toList]
 rw[rJ (by decide) (jQ aN rfl ay) (jQ aN rfl ay) (wF aN)]
 rw[rJ (by decide) (jQ lS rfl jH) (jQ lS rfl jH) (wF lS)]
 rw[rJ (by decide) (jQ fa rfl gF) (jQ fa rfl gF) (wF fa)]
 rw[rJ (by decide) (jQ aE rfl aF) (jQ aE rfl aF) (Jo aE)]
 rw[Lt]
 cases decide (k=k')<;>cases decide (n=n')<;>cases decide (f=f')<;>cases s.beq s'<;>rfl
theorem bk:Str.of {data:= #[]}=bu:=rfl
theorem gd {k:Int}:bz X 77 [(0, .int .i64 k)]=some (.pure (.agg [.int .i64 k, .int .i64 0, .int .u64 0, .str bu])):=by
 simp only[bz,fL,nN,cS,ay,jH,gF,aF,cL,dc,AV.cells,dB,fB]
 rfl
theorem E7 (ho:OD O){s:St}{v:Vl}(hv:v.f<18446744073709551616):
  Ca X O (.fn 67) [.agg (vl v)] s fun z=>∃s',z= .ret (.bool (fe v)) s'∧Am.Mod No s s':=by
 refine bb ho.vMay Kd rfl ?_
 unfold aD aD
 (repeat(first|refine uS ?_ |refine aa rfl ?_));refine ad (by simp(disch:=omega) only[uB,uT,cX (cs:=vl v) rfl];exact rfl) ?_;(repeat(first|refine uS ?_ |refine aa rfl ?_))
 refine eE fun s1 hn1 hm1 h1=>?_
 obtain⟨cc,hcc,_⟩:=ej (cs:=vl v) (zs:=[.int .i64 0, .int .i64 0, .int .u64 0, .str ⟨0,0⟩]) rfl
 (repeat(first|refine uS ?_ |refine aa rfl ?_));refine ad (by simp(disch:=omega) only[uB,uT,h1.all fL rfl dH,bQ nN rfl,AV.cells,wj hcc];exact rfl) ?_;(repeat(first|refine uS ?_ |refine aa rfl ?_))
 refine dy hcc fun s2 hn2 hm2 h2=>?_
 have k1:=h1.no hm2
 have hm02:=hm1.trans hm2 (fun _ _ h=>h)
 have ln:aO X 2 (.ptr (some (s.nx,1))) s2=_:=k1.ld (i:=1) rfl lS rfl jH
 have lk0:aO X 3 (.ptr (some (s.nx,0))) s2=_:=k1.ld (i:=0) rfl aN rfl ay
 have lf:aO X 75 (.ptr (some (s.nx,2))) s2=_:=k1.ld (i:=2) rfl fa rfl gF
 have lstr:aO X 9 (.ptr (some (s.nx,3))) s2=_:=k1.ld (i:=3) rfl aE rfl aF
 obtain⟨s3,e3,g3,hm3,n3⟩:=h2.stm (X:=X) (t:=2) (i:=1) (w:= .int .i64 0) rfl jH rfl rfl
 obtain⟨s4,e4,g4,hm4,n4⟩:=h2.stm (X:=X) (t:=75) (i:=2) (w:= .int .u64 0) rfl gF rfl rfl
 obtain⟨s5,e5,g5,hm5,n5⟩:=h2.stm (X:=X) (t:=9) (i:=3) (w:= .str bu) rfl aF rfl rfl
 have hm03:Am.Mod No s s3:=hm02.trans hm3 (fun b hb e=>by omega)
 have hm04:Am.Mod No s s4:=hm02.trans hm4 (fun b hb e=>by omega)
 have hm05:Am.Mod No s s5:=hm02.trans hm5 (fun b hb e=>by omega)
 have a2:=h2.all fL rfl dH
 have a3:=g3.all fL rfl dH
 have a4:=g4.all fL rfl dH
 have a5:=g5.all fL rfl dH
 have b3:=(k1.mod hm3 (by omega)).ld (i:=0) rfl aN rfl ay
 have b4:=(k1.mod hm4 (by omega)).ld (i:=0) rfl aN rfl ay
 have b5:=(k1.mod hm5 (by omega)).ld (i:=0) rfl aN rfl ay
 change aO X _ _ _=some (.old (.agg [.int .i64 v.kind, .int .i64 v.n, .int .u64 (v.f:Int), .str v.s])) at a2
 change aO X _ _ _=some (.old (.agg [.int .i64 v.kind, .int .i64 0, .int .u64 (v.f:Int), .str v.s])) at a3
 change aO X _ _ _=some (.old (.agg [.int .i64 v.kind, .int .i64 v.n, .int .u64 0, .str v.s])) at a4
 change aO X _ _ _=some (.old (.agg [.int .i64 v.kind, .int .i64 v.n, .int .u64 (v.f:Int), .str bu])) at a5
 repeat(first|refine uS ?_ |refine aa rfl ?_ |refine ad (by simp(disch:=omega) only[uB,uT,ed,Nat.zero_add,lk0];exact rfl) ?_)
 have hf0:decide ((v.f:Int)=0)=decide (v.f=0):=by rw[Bool.eq_iff_iff,decide_eq_true_iff,decide_eq_true_iff];omega
 have hkk:decide (v.kind=v.kind)=true:=by simp
 refine uJ [1,3,6,7] ?_
 refine ae rfl rfl (fun hc=>?_) (fun hc=>?_)
 ·have hk:v.kind=0:=by simpa using hc
  repeat(first|refine uS ?_ |refine aa rfl ?_ |refine ad (by simp(disch:=omega) only[uB,uT,a2,ed,Nat.zero_add,lk0,gd,wz];exact rfl) ?_)
  refine ai rfl ?_
  refine⟨s2,?_,hm02⟩
  unfold fe
  rw[if_pos hk];simp only[eV,decide_true,Bool.true_and,Bool.and_true,Bool.true_or,Bool.or_true,Bool.false_or,Bool.false_and,Bool.and_false,hf0]
 ·have hk0:¬v.kind=0:=by simpa using hc
  refine uG ?_
  refine uJ [1,3,6,9] ?_
  refine ae rfl rfl (fun hc=>?_) (fun hc=>?_)
  ·have hk:v.kind=1:=by simpa using hc
   have fin:∀ {L:Sl},True:=fun{_}=>trivial
   cases d1:decide (v.n=0) with
   |true=>
    repeat(first|refine uS ?_ |refine aa rfl ?_ |refine ad (by simp(disch:=omega) only[uB,uT,eB,Nat.zero_add,ln,d1,Bool.not_true];exact rfl) ?_)
    refine uJ [1,3,18] ?_
    refine ae rfl rfl (fun hc=>?_) (fun hc=>?_)
    ·cases hc
    ·repeat(first|refine uS ?_ |refine aa rfl ?_ |refine ad (by simp(disch:=omega) only[uB,uT,eB,Nat.zero_add,e3,a3,ed,b3,gd,wz];exact rfl) ?_)
     refine ai rfl ?_
     refine⟨s3,?_,hm03⟩
     unfold fe
     rw[if_neg hk0,if_pos hk,d1];simp only[eV,decide_true,Bool.true_and,Bool.and_true,Bool.true_or,Bool.or_true,Bool.false_or,Bool.false_and,Bool.and_false,hf0]
   |false=>
    cases d2:decide (v.n=1) with
    |true=>
     repeat(first|refine uS ?_ |refine aa rfl ?_ |refine ad (by simp(disch:=omega) only[uB,uT,eB,Nat.zero_add,ln,d1,d2,Bool.not_true,Bool.not_false];exact rfl) ?_)
     refine uJ [1,3,18] ?_
     refine ae rfl rfl (fun hc=>?_) (fun hc=>?_)
     ·cases hc
     ·repeat(first|refine uS ?_ |refine aa rfl ?_ |refine ad (by simp(disch:=omega) only[uB,uT,eB,Nat.zero_add,e3,a3,ed,b3,gd,wz];exact rfl) ?_)
      refine ai rfl ?_
      refine⟨s3,?_,hm03⟩
      unfold fe
      rw[if_neg hk0,if_pos hk,d1,d2];simp only[eV,decide_true,Bool.true_and,Bool.and_true,Bool.true_or,Bool.or_true,Bool.false_or,Bool.false_and,Bool.and_false,hf0]
    |false=>
     repeat(first|refine uS ?_ |refine aa rfl ?_ |refine ad (by simp(disch:=omega) only[uB,uT,eB,Nat.zero_add,ln,d1,d2,Bool.not_true,Bool.not_false];exact rfl) ?_)
     refine uJ [1,3,18] ?_
     refine ae rfl rfl (fun hc=>?_) (fun hc=>?_)
     ·refine uG ?_
      refine ai rfl ?_
      refine⟨s2,?_,hm02⟩
      unfold fe
      rw[if_neg hk0,if_pos hk,d1,d2];rfl
     ·cases hc
  ·have hk1:¬v.kind=1:=by simpa using hc
   refine uG ?_
   refine uJ [1,3,6,20] ?_
   refine ae rfl rfl (fun hc=>?_) (fun hc=>?_)
   ·have hk:v.kind=2:=by simpa using hc
    repeat(first|refine uS ?_ |refine aa rfl ?_ |refine ad (by simp(disch:=omega) only[uB,uT,eB,Nat.zero_add,e3,a3,ed,b3,gd,wz];exact rfl) ?_)
    refine ai rfl ?_
    refine⟨s3,?_,hm03⟩
    unfold fe
    rw[if_neg hk0,if_neg hk1,if_pos hk];simp only[eV,decide_true,Bool.true_and,Bool.and_true,Bool.true_or,Bool.or_true,Bool.false_or,Bool.false_and,Bool.and_false,hf0]
   ·have hk2:¬v.kind=2:=by simpa using hc
    refine uG ?_
    refine uJ [1,3,6,23] ?_
    refine ae rfl rfl (fun hc=>?_) (fun hc=>?_)
    ·have hk:v.kind=3:=by simpa using hc
     refine uH ?_
     refine aU [(0,none),(1,none),(3,none),(4,none),(2,some [true,true,false,true]),(5,none)] (by kernel_rfl) (by kernel_rfl) (by simp(disch:=omega) only[uB,uT,Nat.reduceEqDiff,↓reduceIte,uD,mask,aC,aB,fc,Nat.zero_add,lf];exact rfl) ?_
     refine cg (CT ho.canon ho.bits hv) ?_ ?_
     ·rintro r s' e
      cases e
      refine⟨_,(by simp(disch:=omega) only[uB,uT,Nat.reduceEqDiff,↓reduceIte,uE,aC,aB,fc,Nat.zero_add,lf];exact rfl),?_⟩
      refine uH ?_
      have hcf:decide ((canon v.f:Int)=(v.f:Int))=decide (canon v.f=v.f):=by rw[Bool.eq_iff_iff,decide_eq_true_iff,decide_eq_true_iff];omega
      refine uJ [1,3,30] ?_
      refine ae rfl rfl (fun hc=>?_) (fun hc=>?_)
      ·refine uG ?_
       refine ai rfl ?_
       refine⟨_,?_,hm02⟩
       unfold fe
       rw[hcf] at hc
       have:decide (canon v.f=v.f)=false:=by simpa using hc
       rw[if_neg hk0,if_neg hk1,if_neg hk2,if_pos hk,this];simp only[eV,decide_true,Bool.true_and,Bool.and_true,Bool.true_or,Bool.or_true,Bool.false_or,Bool.false_and,Bool.and_false,hf0]
      ·repeat(first|refine uS ?_ |refine aa rfl ?_ |refine ad (by simp(disch:=omega) only[uB,uT,fc,Nat.zero_add,e4,a4,ed,b4,gd,wz];exact rfl) ?_)
       refine ai rfl ?_
       refine⟨s4,?_,hm04⟩
       unfold fe
       rw[hcf] at hc
       have:decide (canon v.f=v.f)=true:=by simpa using hc
       rw[if_neg hk0,if_neg hk1,if_neg hk2,if_pos hk,this];simp only[eV,decide_true,Bool.true_and,Bool.and_true,Bool.true_or,Bool.or_true,Bool.false_or,Bool.false_and,Bool.and_false,hf0]
     ·rintro r s' e
      cases e
    ·have hk3:¬v.kind=3:=by simpa using hc
     have fin:(v.kind=4∨v.kind=5)→decide ((40:Int)<(v.s.len:Int))=true→fe v=false:=fun h4 h=>by
      unfold fe
      rw[if_neg hk0,if_neg hk1,if_neg hk2,if_neg hk3,if_pos h4]
      have:decide (v.s.len≤40)=false:=by simp at h ⊢;omega
      rw[this];simp
     have fin2:(v.kind=4∨v.kind=5)→decide ((40:Int)<(v.s.len:Int))=false→fe v=(decide (v.n=0)&&decide (v.f=0)):=fun h4 h=>by
      unfold fe
      rw[if_neg hk0,if_neg hk1,if_neg hk2,if_neg hk3,if_pos h4]
      have:decide (v.s.len≤40)=true:=by simp at h ⊢;omega
      rw[this];simp
     cases d4:decide (v.kind=4) with
     |true=>
      have h4:v.kind=4:=by simpa using d4
      repeat(first|refine uS ?_ |refine aa rfl ?_ |refine ad (by simp(disch:=omega) only[uB,uT,d4];exact rfl) ?_)
      refine uJ [1,3,32] ?_
      refine ae rfl rfl (fun hc=>?_) (fun hc=>?_)
      ·refine uG ?_
       refine ae rfl rfl (fun hc=>?_) (fun hc=>?_)
       ·repeat(first|refine uS ?_ |refine aa rfl ?_ |refine ad (by simp(disch:=omega) only[uB,uT,eQ,Nat.zero_add,lstr,aJ aE];exact rfl) ?_)
        refine uJ [1,3,38] ?_
        refine ae rfl rfl (fun hc=>?_) (fun hc=>?_)
        ·refine uG ?_
         refine ai rfl ?_
         exact⟨s2,by rw[fin (.inl h4) hc];rfl,hm02⟩
        ·repeat(first|refine uS ?_ |refine aa rfl ?_ |refine ad (by simp(disch:=omega) only[uB,uT,eQ,Nat.zero_add,bk,e5,a5,ed,b5,gd,wz];exact rfl) ?_)
         refine ai rfl ?_
         refine⟨s5,?_,hm05⟩
         rw[fin2 (.inl h4) hc]
         have:bu.beq bu=true:=rfl
         simp only[eV,decide_true,Bool.true_and,Bool.and_true,Bool.true_or,Bool.or_true,Bool.false_or,Bool.false_and,Bool.and_false,hf0,this]
       ·cases hc
      ·cases hc
     |false=>
      repeat(first|refine uS ?_ |refine aa rfl ?_ |refine ad (by simp(disch:=omega) only[uB,uT,d4];exact rfl) ?_)
      refine uJ [1,3,6,32] ?_
      refine ae rfl rfl (fun hc=>?_) (fun hc=>?_)
      ·cases hc
      ·cases d5:decide (v.kind=5) with
       |true=>
        have h5:v.kind=5:=by simpa using d5
        repeat(first|refine uS ?_ |refine aa rfl ?_ |refine ad (by simp(disch:=omega) only[uB,uT,d5];exact rfl) ?_)
        refine uJ [1,3,32] ?_
        refine ae rfl rfl (fun hc=>?_) (fun hc=>?_)
        ·repeat(first|refine uS ?_ |refine aa rfl ?_ |refine ad (by simp(disch:=omega) only[uB,uT,eQ,Nat.zero_add,lstr,aJ aE];exact rfl) ?_)
         refine uJ [1,3,38] ?_
         refine ae rfl rfl (fun hc=>?_) (fun hc=>?_)
         ·refine uG ?_
          refine ai rfl ?_
          exact⟨s2,by rw[fin (.inr h5) hc];rfl,hm02⟩
         ·repeat(first|refine uS ?_ |refine aa rfl ?_ |refine ad (by simp(disch:=omega) only[uB,uT,eQ,Nat.zero_add,bk,e5,a5,ed,b5,gd,wz];exact rfl) ?_)
          refine ai rfl ?_
          refine⟨s5,?_,hm05⟩
          rw[fin2 (.inr h5) hc]
          have:bu.beq bu=true:=rfl
          simp only[eV,decide_true,Bool.true_and,Bool.and_true,Bool.true_or,Bool.or_true,Bool.false_or,Bool.false_and,Bool.and_false,hf0,this]
        ·cases hc
       |false=>
        repeat(first|refine uS ?_ |refine aa rfl ?_ |refine ad (by simp(disch:=omega) only[uB,uT,d5];exact rfl) ?_)
        refine uJ [1,3,32] ?_
        refine ae rfl rfl (fun hc=>?_) (fun hc=>?_)
        ·cases hc
        ·refine uG ?_
         refine ai rfl ?_
         refine⟨s2,?_,hm02⟩
         unfold fe
         rw[if_neg hk0,if_neg hk1,if_neg hk2,if_neg hk3,if_neg (by simp at d4 d5;omega)];rfl
end
end Go.Proofs.Ytofohkdkpbigiaa
end
section
namespace Go.Proofs.Ytofohkdkpbigiaa
open Go.Am
set_option maxRecDepth 10000
set_option maxHeartbeats 1000000
set_option linter.unusedSimpArgs false
def okL (k:Str):Bool:=decide (k.len≤1000)
def okK (ks:List Str)(i:Nat):Bool:=okL (ks.getD i bu)&& (decide (i=0)|| (ks.getD (i- 1) bu).lt (ks.getD i bu))
def om (ks:List Str):Bool:=(List.range ks.length).all (okK ks)
def okR (r:Str×Str):Bool:=okL r.1&&okL r.2
def dW:Str×Str×Bool:=(bu,bu,false)
def okW (ws:List (Str×Str×Bool))(i:Nat):Bool:=(okL (ws.getD i dW).1&&decide ((ws.getD i dW).2.1.len≤10000))&& ((!(ws.getD i dW).2.2|| (ws.getD i dW).2.1.beq bu)&& (decide (i=0)|| (ws.getD (i- 1) dW).1.lt (ws.getD i dW).1))
def pf (ws:List (Str×Str×Bool)):Bool:=(List.range ws.length).all (okW ws)
def gq (c:Cmd):Bool:=(om c.keys&&c.ranges.all okR)&& (decide (c.keys.length≤200)&&decide (c.ranges.length≤50))
def gE (c:Cmd):Bool:=pf c.writes&&decide (c.writes.length≤200)
theorem pw {a b:Str}:(a.lt b||a.beq b)= !(b.lt a):=by
 rcases Str.total (a:=a) (b:=b) with h|h|h
 ·rw[h,Str.lt_asymm h];rfl
 ·subst h;rw[Str.lt_irrefl,Str.fT];rfl
 ·rw[h,Str.lt_asymm h,Str.beq_false.mpr (Str.ne_of_lt h).symm];rfl
theorem jm {f:Nat→Bool}{i:Nat}:(List.range (i+1)).all f=((List.range i).all f&&f i):=by
 rw[List.range_succ,List.all_append];simp
theorem im {f:Nat→Bool}{i n:Nat}(hi:i<n)(h:f i=false):(List.range n).all f=false:=by
 rw[List.all_eq_false]
 exact⟨i,List.mem_range.mpr hi,by rw[h];exact Bool.false_ne_true⟩
theorem jO {α:Type}{l:List α}{i:Nat}{d q:α}(h:l[i]? =some q):l.getD i d=q:=by rw[List.getD_eq_getElem?_getD,h];rfl
section
variable {O:bj}
theorem IG:X.fns.get 68=some Try.f68:=by kernel_rfl
theorem EO:X.fns.get 69=some Try.f69:=by kernel_rfl
theorem CI (ho:O 81=none){s:St}{v:AV}{ks:List Str}(hs:Sli s v 1 (ks.map kr))(hl:ks.length≤100000):
  Ca X O (.fn 81) [v] s fun z=>z= .ret (.bool (ks.all okL)) s:=by
 obtain⟨a,c,x,rfl,_⟩:=hs.ex
 rw[List.length_map] at hs
 refine bb ho It rfl ?_
 unfold aD aD
 rw[List.length_map]
 refine uG ?_
 let I:Nat→Sl→St→Prop:=fun i L s'=>s=s'∧i≤ks.length∧(ks.take i).all okL=true∧L=[(5, .slc a ks.length c x),(6, .int .i64 (ks.length:Int)),(7, .int .i64 (i:Int))]
 refine WL.less (M:=[(5, .slc a ks.length c x),(6, .int .i64 (ks.length:Int)),(7, .int .i64 ((0:Nat):Int))]) ?_ rfl
 refine aV I (fun i=>ks.length- i) ?_ ks.length 0 _ s (by simp) ⟨rfl,Nat.zero_le _,rfl,rfl⟩
 rintro i L _ ⟨rfl,hi,hall,rfl⟩
 refine uG ?_
 refine uJ [5,6,7,8] ?_
 refine ae rfl rfl (fun hc2=>?_) (fun hc2=>?_)
 ·simp at hc2
  obtain⟨q,hq⟩:∃q,ks[i]? =some q:=⟨_,List.getElem?_eq_getElem (by omega)⟩
  obtain⟨b5,off5,c5,x5,t5,n5,e5,_,k2,k3⟩:=hs.at (i:=i) (r:=kr q) (by simp[hq])
  rw[List.length_map] at e5
  cases e5
  have k4:=eS k3
  repeat(first|refine uS ?_ |refine aa rfl ?_ |refine ad (by simp(disch:=omega) only[uB,uT,aQ dS aF,ah aE rfl aF k2 k4,Int.toNat_natCast,aJ aE];exact rfl) ?_)
  refine uJ [5,6,7,13] ?_
  refine ae rfl rfl (fun hc3=>?_) (fun hc3=>?_)
  ·refine uG ?_
   refine ai rfl ?_
   have hn:okL q=false:=by simp at hc3;unfold okL;simp;omega
   have:ks.all okL=false:=by
    rw[List.all_eq_false];exact⟨q,List.mem_of_getElem? hq,by rw[hn];exact Bool.false_ne_true⟩
   rw[this];rfl
  ·refine uG ?_
   refine aH (i+1) [(5, .slc (some (b5,off5,1)) ks.length c x),(6, .int .i64 (ks.length:Int)),(7, .int .i64 ((i+1:Nat):Int))] ⟨rfl,by omega,?_,by simp⟩ (by show ks.length- (i+1)<ks.length- i;omega) (by simp[aI,az])
   have hn:okL q=true:=by simp at hc3;unfold okL;simp;omega
   rw[List.take_add_one,hq,List.all_append,hall]
   simp[hn]
 ·simp at hc2
  have:i=ks.length:=by omega
  subst this
  rw[List.take_length] at hall
  refine uG ?_
  refine ai rfl ?_
  rw[hall];rfl
theorem fF {s:St}{v:Str}:bB X 36 1 [(0, .str v)] s=some (.val (.slc (some (s.nx,0,1)) 1 1 true) {s with h:=s.h.put s.nx (.cells (Tr.of [.str v]) 1),nx:=s.nx+1}):=
 CE dS aF z6 rfl
theorem Jm {s:St}{u v:Str}:bB X 36 2 [(0, .str u),(1, .str v)] s=some (.val (.slc (some (s.nx,0,1)) 2 2 true) {s with h:=s.h.put s.nx (.cells (Tr.of [.str u, .str v]) 2),nx:=s.nx+1}):=by
 simp only[bB,dS,aF,z6]
 simp only[eG,lR,dc,AV.cells,dB,fE,aX,iF]
 rfl
theorem tL (ho:O 81=none){s:St}(ks:List Str)(hl:ks.length≤100000){k:Nat}:
  Ca X O (.fn 81) [.slc (some (s.nx,0,1)) ks.length ks.length true] {s with h:=s.h.put s.nx (.cells (Tr.of (ks.map AV.str)) k),nx:=s.nx+1} fun z=>∃s',z= .ret (.bool (ks.all okL)) s'∧Am.Mod No s s':=by
 have hfl:∀l:List Str,(l.map kr).flatten=l.map AV.str:=by
  intro l
  induction l with
  |nil=>rfl
  |cons n l ih=>simp only[List.map_cons,List.flatten_cons,ih];rfl
 have hb1:Bx {s with h:=s.h.put s.nx (.cells (Tr.of (ks.map AV.str)) k),nx:=s.nx+1} s.nx (ks.map kr).flatten:=by rw[hfl];exact Bx.box (s:=s)
 have hsl:Sli {s with h:=s.h.put s.nx (.cells (Tr.of (ks.map AV.str)) k),nx:=s.nx+1} (.slc (some (s.nx,0,1)) ks.length ks.length true) 1 (ks.map kr):=hb1.sli (fun r hr=>by obtain⟨q,_,rfl⟩:=List.mem_map.mp hr;rfl) (by simp)
 exact(CI ho hsl hl).mono fun r hr=>⟨_,hr,(Mod.refl _ s).new _⟩
theorem CY (hs:O 81=none)(ho:O 68=none){s:St}{c:Cmd}{z:CL}(hc:jI s c z):
  Ca X O (.fn 68) [.agg (bY c z)] s fun r=>∃s',r= .ret (.bool (gq c)) s'∧Am.Mod No s s':=by
 obtain⟨ak,ck,xk,ek,_⟩:=hc.k.ex
 obtain⟨ar,cr,xr,er,_⟩:=hc.r.ex
 rw[List.length_map] at ek er
 have hkl:=hc.kl
 have hrl:=hc.rl
 refine bb ho IG rfl ?_
 unfold aD aD
 refine fO ?_;refine ad (by simp(disch:=omega) only[uB,uT,cX (cs:=bY c z) hc.qI];exact rfl) ?_;refine dR ?_;refine cJ ?_
 refine eE fun s1 hn1 hm1 hb1=>?_
 have gk:∀ {s'},Am.Mod No s1 s'→aO X 36 (.ptr (some (s.nx,4))) s'=some (.old (.slc ak c.keys.length ck xk)):=fun hx=>by rw[←ek];exact(hb1.no hx).ld (i:=4) rfl dS rfl fV
 have gr:∀ {s'},Am.Mod No s1 s'→aO X 37 (.ptr (some (s.nx,5))) s'=some (.old (.slc ar c.ranges.length cr xr)):=fun hx=>by rw[←er];exact(hb1.no hx).ld (i:=5) rfl eP rfl fY
 have hck:=(hc.no hm1).k
 have hcr:=(hc.no hm1).r
 rw[ek] at hck
 rw[er] at hcr
 have g1:=gk (Mod.refl _ s1)
 refine eL (fun L s'=>L=[(1, .ptr (some (s.nx,0)))]∧Am.Mod No s1 s'∧om c.keys=true) ?_ ?_
 ·repeat(first|refine uS ?_ |refine aa rfl ?_ |refine ad (by simp(disch:=omega) only[uB,uT,lh,Nat.zero_add,g1];exact rfl) ?_)
  unfold gq
  unfold om
  generalize c.keys=ks at*
  let I:Nat→Sl→St→Prop:=fun i L s'=>Am.Mod No s1 s'∧i≤ks.length∧(List.range i).all (okK ks)=true∧L=[(1, .ptr (some (s.nx,0))),(8, .slc ak ks.length ck xk),(9, .int .i64 (ks.length:Int)),(10, .int .i64 (i:Int))]
  refine WL.less (M:=[(1, .ptr (some (s.nx,0))),(8, .slc ak ks.length ck xk),(9, .int .i64 (ks.length:Int)),(10, .int .i64 ((0:Nat):Int))]) ?_ rfl
  refine aV I (fun i=>ks.length- i) ?_ ks.length 0 _ s1 (by simp) ⟨Mod.refl _ _,Nat.zero_le _,rfl,rfl⟩
  rintro i L s2 ⟨hm2,hi,hall,rfl⟩
  refine uG ?_
  refine uJ [1,8,9,10,11] ?_
  refine ae rfl rfl (fun hc2=>?_) (fun hc2=>?_)
  ·simp at hc2
   obtain⟨q,hq⟩:∃q,ks[i]? =some q:=⟨_,List.getElem?_eq_getElem (by omega)⟩
   obtain⟨b5,off5,c5,x5,t5,n5,e5,l5,k2,k3⟩:=(hck.mod hm2 (fun _ _ h=>h)).at (i:=i) (r:=kr q) (by simp[hq])
   rw[List.length_map] at e5
   cases e5
   have k4:=eS k3
   have hgd:ks.getD i bu=q:=jO hq
   repeat(first|refine uS ?_ |refine aa rfl ?_ |refine ad (by simp(disch:=omega) only[uB,uT,aQ dS aF,ah aE rfl aF k2 k4,Int.toNat_natCast,fF];exact rfl) ?_)
   refine aj (tL hs [q] (by simp)) ?_ ?_
   ·rintro r s3 ⟨s3',e,hm3⟩
    cases e
    have hm23:=hm2.trans hm3 (fun _ _ h=>h)
    have hl3:[q].all okL=okL q:=by simp
    rw[hl3]
    have fl:okK ks i=false→Fin (tz X Try.f68 fun r=>∃s',r= .ret (.bool (((List.range ks.length).all (okK ks)&&c.ranges.all okR)&& (decide (ks.length≤200)&&decide (c.ranges.length≤50)))) s'∧Am.Mod No s s') .ret [(2, .bool false)] [] s3:=fun h=>by
     refine ai rfl ?_
     exact⟨s3,by rw[im (by omega) h];rfl,hm1.trans hm23 (fun _ _ h=>h)⟩
    have nx:okK ks i=true→∀ {L},aI [1,8,9,10] L=[(1, .ptr (some (s.nx,0))),(8, .slc (some (b5,off5,1)) ks.length ck xk),(9, .int .i64 (ks.length:Int)),(10, .int .i64 ((i+1:Nat):Int))]→∀ {Q},Fin (oO I (fun i=>ks.length- i) [] Q i) .norm L [] s3:=fun h L hL Q=>
     aH (i+1) [(1, .ptr (some (s.nx,0))),(8, .slc (some (b5,off5,1)) ks.length ck xk),(9, .int .i64 (ks.length:Int)),(10, .int .i64 ((i+1:Nat):Int))] ⟨hm23,by omega,by rw[jm,hall,h];rfl,rfl⟩ (by show ks.length- (i+1)<ks.length- i;omega) hL
    cases d1:okL q with
    |false=>
     refine bD (by simp(disch:=omega) only[uB,uT,aP,Bool.not_false];exact rfl) ?_
     refine uH ?_
     refine uJ [1,8,9,10,32] ?_
     refine ae rfl rfl (fun hc3=>?_) (fun hc3=>?_)
     ·refine uG ?_
      refine Fin.jn [2] ?_
      exact fl (by unfold okK;rw[hgd,d1];rfl)
     ·cases hc3
    |true=>
     cases d2:decide ((0:Int)<(i:Int)) with
     |false=>
      have hi0:i=0:=by simpa using d2
      refine bD (by simp(disch:=omega) only[uB,uT,aP,Bool.not_true,d2];exact rfl) ?_
      refine uH ?_
      refine uJ [1,8,9,10,32] ?_
      refine ae rfl rfl (fun hc3=>?_) (fun hc3=>?_)
      ·cases hc3
      ·refine uG ?_
       exact nx (by unfold okK;rw[hgd,d1,hi0];rfl) (by simp[aI,az])
     |true=>
      have hi0:0<i:=by simpa using d2
      obtain⟨p,hp⟩:∃p,ks[i- 1]? =some p:=⟨_,List.getElem?_eq_getElem (by omega)⟩
      obtain⟨b6,off6,c6,x6,t6,n6,e6,l6,j2,j3⟩:=(hck.mod hm23 (fun _ _ h=>h)).at (i:=i- 1) (r:=kr p) (by simp[hp])
      rw[List.length_map] at e6
      cases e6
      have j4:=eS j3
      have hgp:ks.getD (i- 1) bu=p:=jO hp
      have hi1:(i:Int)- 1=((i- 1:Nat):Int):=by omega
      refine bD (by simp(disch:=omega) only[uB,uT,aP,Bool.not_true,d2,lh,Nat.zero_add,gk hm23,hi1,aQ dS aF,ah aE rfl aF j2 j4,Int.toNat_natCast];exact rfl) ?_
      refine uH ?_
      refine uJ [1,8,9,10,32] ?_
      refine ae rfl rfl (fun hc3=>?_) (fun hc3=>?_)
      ·refine uG ?_
       refine Fin.jn [2] ?_
       rw[pw] at hc3
       exact fl (by unfold okK;rw[hgd,hgp,d1];simp at hc3;simp[hc3];omega)
      ·refine uG ?_
       rw[pw] at hc3
       exact nx (by unfold okK;rw[hgd,hgp,d1];simp at hc3;simp[hc3]) (by simp[aI,az])
   ·rintro r s' ⟨_,e,_⟩
    cases e
  ·simp at hc2
   have:i=ks.length:=by omega
   subst this
   refine uG ?_
   exact dD [(1, .ptr (some (s.nx,0)))] ⟨rfl,hm2,hall⟩ (by simp[aI,az])
 ·rintro L s2 ⟨rfl,hm2,hkeys⟩
  refine eL (fun L s'=>L=[(1, .ptr (some (s.nx,0)))]∧Am.Mod No s1 s'∧c.ranges.all okR=true) ?_ ?_
  ·repeat(first|refine uS ?_ |refine aa rfl ?_ |refine ad (by simp(disch:=omega) only[uB,uT,jY,Nat.zero_add,gr hm2];exact rfl) ?_)
   have hmr:gq c=((true&&c.ranges.all okR)&& (decide (c.keys.length≤200)&&decide (c.ranges.length≤50))):=by unfold gq;rw[hkeys]
   rw[hmr]
   have hlr:c.ranges.length=c.ranges.length:=rfl
   generalize c.ranges=rs at*
   let I:Nat→Sl→St→Prop:=fun i L s'=>Am.Mod No s1 s'∧i≤rs.length∧(rs.take i).all okR=true∧L=[(1, .ptr (some (s.nx,0))),(35, .slc ar rs.length cr xr),(36, .int .i64 (rs.length:Int)),(37, .int .i64 (i:Int))]
   refine WL.less (M:=[(1, .ptr (some (s.nx,0))),(35, .slc ar rs.length cr xr),(36, .int .i64 (rs.length:Int)),(37, .int .i64 ((0:Nat):Int))]) ?_ rfl
   refine aV I (fun i=>rs.length- i) ?_ rs.length 0 _ s2 (by simp) ⟨hm2,Nat.zero_le _,rfl,rfl⟩
   rintro i L s3 ⟨hm3,hi,hall,rfl⟩
   refine uG ?_
   refine uJ [1,35,36,37,38] ?_
   refine ae rfl rfl (fun hc2=>?_) (fun hc2=>?_)
   ·simp at hc2
    obtain⟨q,hq⟩:∃q,rs[i]? =some q:=⟨_,List.getElem?_eq_getElem (by omega)⟩
    obtain⟨b5,off5,c5,x5,t5,n5,e5,l5,k2,k3⟩:=(hcr.mod hm3 (fun _ _ h=>h)).at (i:=i) (r:=pr q) (by simp[hq])
    rw[List.length_map] at e5
    cases e5
    obtain⟨cc,hcc,_⟩:=ej (cs:=pr q) (zs:=[.str ⟨0,0⟩, .str ⟨0,0⟩]) rfl
    (repeat(first|refine uS ?_ |refine aa rfl ?_));refine ad (by simp(disch:=omega) only[uB,uT,aQ eP fQ,cE qV rfl fQ k2 k3,Int.toNat_natCast,bQ sD rfl,AV.cells,Bq hcc];exact rfl) ?_;(repeat(first|refine uS ?_ |refine aa rfl ?_))
    refine dy hcc fun s4 hn4 hm4 g4=>?_
    repeat(first|refine uS ?_ |refine aa rfl ?_ |refine ad (by simp(disch:=omega) only[uB,uT,tW,tR,Nat.zero_add,g4.ld (i:=0) rfl aE rfl aF,g4.ld (i:=1) rfl aE rfl aF,Jm];exact rfl) ?_)
    refine aj (tL hs [q.1,q.2] (by simp)) ?_ ?_
    ·rintro r s5 ⟨s5',e,hm5⟩
     cases e
     have hm15:=(hm3.trans hm4 (fun _ _ h=>h)).trans hm5 (fun _ _ h=>h)
     have hl3:[q.1,q.2].all okL=okR q:=by simp[okR]
     rw[hl3]
     refine uL ?_
     refine uH ?_
     refine uJ [1,35,36,37,47] ?_
     refine ae rfl rfl (fun hc3=>?_) (fun hc3=>?_)
     ·refine uG ?_
      refine ai rfl ?_
      have:rs.all okR=false:=by
       rw[List.all_eq_false];exact⟨q,List.mem_of_getElem? hq,by simpa using hc3⟩
      exact⟨s5,by rw[this];rfl,hm1.trans hm15 (fun _ _ h=>h)⟩
     ·refine uG ?_
      refine aH (i+1) [(1, .ptr (some (s.nx,0))),(35, .slc (some (b5,off5,2)) rs.length cr xr),(36, .int .i64 (rs.length:Int)),(37, .int .i64 ((i+1:Nat):Int))] ⟨hm15,by omega,?_,rfl⟩ (by show rs.length- (i+1)<rs.length- i;omega) (by simp[aI,az])
      rw[List.take_add_one,hq,List.all_append,hall]
      simp at hc3
      simp[hc3]
    ·rintro r s' ⟨_,e,_⟩
     cases e
   ·simp at hc2
    have:i=rs.length:=by omega
    subst this
    rw[List.take_length] at hall
    refine uG ?_
    exact dD [(1, .ptr (some (s.nx,0)))] ⟨rfl,hm3,hall⟩ (by simp[aI,az])
  ·rintro L s3 ⟨rfl,hm3,hrs⟩
   have hres:gq c=(decide (c.keys.length≤200)&&decide (c.ranges.length≤50)):=by unfold gq;rw[hkeys,hrs];rfl
   have e1:decide ((c.keys.length:Int)≤200)=decide (c.keys.length≤200):=by rw[Bool.eq_iff_iff,decide_eq_true_iff,decide_eq_true_iff];omega
   have e2:decide ((c.ranges.length:Int)≤50)=decide (c.ranges.length≤50):=by rw[Bool.eq_iff_iff,decide_eq_true_iff,decide_eq_true_iff];omega
   cases d:decide (c.keys.length≤200) with
   |true=>
    rw[d] at e1
    repeat(first|refine uS ?_ |refine aa rfl ?_ |refine ad (by simp(disch:=omega) only[uB,uT,lh,jY,Nat.zero_add,gk hm3,gr hm3,e1];exact rfl) ?_)
    refine ai rfl ?_
    refine⟨s3,?_,hm1.trans hm3 (fun _ _ h=>h)⟩
    rw[hres,d,e2];rfl
   |false=>
    rw[d] at e1
    repeat(first|refine uS ?_ |refine aa rfl ?_ |refine ad (by simp(disch:=omega) only[uB,uT,lh,jY,Nat.zero_add,gk hm3,gr hm3,e1];exact rfl) ?_)
    refine ai rfl ?_
    refine⟨s3,?_,hm1.trans hm3 (fun _ _ h=>h)⟩
    rw[hres,d];rfl
end
end Go.Proofs.Ytofohkdkpbigiaa
end
section
namespace Go.Proofs.Ytofohkdkpbigiaa
open Go.Am
set_option maxRecDepth 10000
set_option maxHeartbeats 1000000
set_option linter.unusedSimpArgs false
section
variable {O:bj}
theorem B3 (hs:O 81=none)(ho:O 69=none){s:St}(htd:Tidy s){c:Cmd}{z:CL}(hc:jI s c z):
  Ca X O (.fn 69) [.agg (bY c z)] s fun r=>∃s',r= .ret (.bool (gE c)) s'∧Am.Mod No s s':=by
 obtain⟨aw,cw,xw,ew,_⟩:=hc.w.ex
 rw[List.length_map] at ew
 have hwl:=hc.wl
 refine bb ho EO rfl ?_
 unfold aD aD
 refine fO ?_;refine ad (by simp(disch:=omega) only[uB,uT,cX (cs:=bY c z) hc.qI];exact rfl) ?_;refine dR ?_;refine cJ ?_
 refine eE fun s1 hn1 hm1 hb1=>?_
 have gw:∀ {s'},Am.Mod No s1 s'→aO X 35 (.ptr (some (s.nx,6))) s'=some (.old (.slc aw c.writes.length cw xw)):=fun hx=>by rw[←ew];exact(hb1.no hx).ld (i:=6) rfl ct rfl fW
 have hcw:=(hc.no hm1).w
 rw[ew] at hcw
 refine eL (fun L s'=>L=[(1, .ptr (some (s.nx,0)))]∧Am.Mod No s1 s'∧pf c.writes=true) ?_ ?_
 ·repeat(first|refine uS ?_ |refine aa rfl ?_ |refine ad (by simp(disch:=omega) only[uB,uT,gS,Nat.zero_add,gw (Mod.refl _ s1)];exact rfl) ?_)
  unfold gE
  unfold pf
  generalize c.writes=ws at*
  let I:Nat→Sl→St→Prop:=fun i L s'=>Am.Mod No s1 s'∧i≤ws.length∧(List.range i).all (okW ws)=true∧L=[(1, .ptr (some (s.nx,0))),(6, .slc aw ws.length cw xw),(7, .int .i64 (ws.length:Int)),(8, .int .i64 (i:Int))]
  refine WL.less (M:=[(1, .ptr (some (s.nx,0))),(6, .slc aw ws.length cw xw),(7, .int .i64 (ws.length:Int)),(8, .int .i64 ((0:Nat):Int))]) ?_ rfl
  refine aV I (fun i=>ws.length- i) ?_ ws.length 0 _ s1 (by simp) ⟨Mod.refl _ _,Nat.zero_le _,rfl,rfl⟩
  rintro i L s2 ⟨hm2,hi,hall,rfl⟩
  refine uG ?_
  refine uJ [1,6,7,8,9] ?_
  refine ae rfl rfl (fun hc2=>?_) (fun hc2=>?_)
  ·simp at hc2
   obtain⟨q,hq⟩:∃q,ws[i]? =some q:=⟨_,List.getElem?_eq_getElem (by omega)⟩
   obtain⟨b5,off5,c5,x5,t5,n5,e5,l5,k2,k3⟩:=(hcw.mod hm2 (fun _ _ h=>h)).at (i:=i) (r:=wrt q) (by simp[hq])
   rw[List.length_map] at e5
   cases e5
   obtain⟨cc,hcc,_⟩:=ej (cs:=wrt q) (zs:=[.str ⟨0,0⟩, .str ⟨0,0⟩, .bool false]) rfl
   have hgd:ws.getD i dW=q:=jO hq
   (repeat(first|refine uS ?_ |refine aa rfl ?_));refine ad (by simp(disch:=omega) only[uB,uT,aQ ct bT,cE m4 rfl bT k2 k3,Int.toNat_natCast,bQ mK rfl,AV.cells,qb hcc];exact rfl) ?_;(repeat(first|refine uS ?_ |refine aa rfl ?_))
   refine dy hcc fun s3 hn3 hm3 g3=>?_
   have htd3:=(hm1.trans (hm2.trans hm3 (fun _ _ h=>h)) (fun _ _ h=>h)).tidy htd
   refine aU [(0,none),(1,none),(2,none),(3,some [false,true,true]),(4,none),(5,none),(6,none),(7,none),(8,none),(9,none),(10,none),(11,none),(12,none),(13,none),(14,none),(15,none),(16,none),(17,none),(18,none),(19,none),(20,none),(21,none),(22,none),(23,none),(24,none),(25,none),(26,none),(27,none),(28,none),(29,none),(30,none),(31,none),(32,none),(33,none),(34,none),(35,none)] (by kernel_rfl) (by kernel_rfl) (by simp(disch:=omega) only[uB,uT,Nat.reduceEqDiff,↓reduceIte,uD,mask,aC,aB,iD,Nat.zero_add,g3.ld (i:=0) rfl aE rfl aF,fF,tI (htd3 _ (Nat.le_refl _))];exact rfl) ?_
   refine cg (tL hs [q.1] (by simp)) ?_ ?_
   ·rintro r s4 ⟨s4',e,hm4⟩
    cases e
    have hm24:=(hm2.trans hm3 (fun _ _ h=>h)).trans hm4 (fun _ _ h=>h)
    have g4:=g3.no hm4
    have lk4:aO X 9 (.ptr (some (s2.nx,0))) s4=some (.old (.str q.1)):=g4.ld (i:=0) rfl aE rfl aF
    have lv4:aO X 9 (.ptr (some (s2.nx,1))) s4=some (.old (.str q.2.1)):=g4.ld (i:=1) rfl aE rfl aF
    have ld4:aO X 4 (.ptr (some (s2.nx,2))) s4=some (.old (.bool q.2.2)):=g4.ld (i:=2) rfl mg rfl eC
    have hl3:[q.1].all okL=okL q.1:=by simp
    rw[hl3]
    have fl:okW ws i=false→Fin (tz X Try.f69 fun r=>∃s',r= .ret (.bool ((List.range ws.length).all (okW ws)&&decide (ws.length≤200))) s'∧Am.Mod No s s') .ret [(2, .bool false)] [] s4:=fun h=>by
     refine ai rfl ?_
     exact⟨s4,by rw[im (by omega) h];rfl,hm1.trans hm24 (fun _ _ h=>h)⟩
    have nx:okW ws i=true→∀ {L},aI [1,6,7,8] L=[(1, .ptr (some (s.nx,0))),(6, .slc (some (b5,off5,3)) ws.length cw xw),(7, .int .i64 (ws.length:Int)),(8, .int .i64 ((i+1:Nat):Int))]→∀ {Q},Fin (oO I (fun i=>ws.length- i) [] Q i) .norm L [] s4:=fun h L hL Q=>
     aH (i+1) [(1, .ptr (some (s.nx,0))),(6, .slc (some (b5,off5,3)) ws.length cw xw),(7, .int .i64 (ws.length:Int)),(8, .int .i64 ((i+1:Nat):Int))] ⟨hm24,by omega,by rw[jm,hall,h];rfl,rfl⟩ (by show ws.length- (i+1)<ws.length- i;omega) hL
    have hk:okW ws i=((okL q.1&&decide (q.2.1.len≤10000))&& ((!q.2.2||q.2.1.beq bu)&& (decide (i=0)|| (ws.getD (i- 1) dW).1.lt q.1))):=by unfold okW;rw[hgd]
    cases d1:okL q.1 with
    |false=>
     refine⟨_,(by simp(disch:=omega) only[uB,uT,Nat.reduceEqDiff,↓reduceIte,uE,aC,aB,fF,iD,kj,j7,gS,Nat.zero_add,lk4,lv4,ld4,aP,Bool.not_true,Bool.not_false,aJ aE,bk,gw hm24,d1];exact rfl),?_⟩
     refine uH ?_
     refine uJ [1,6,7,8,48] ?_
     refine ae rfl rfl (fun hc3=>?_) (fun hc3=>?_)
     ·refine uG ?_
      refine Fin.jn [2] ?_
      exact fl (by rw[hk];simp only[d1,Bool.false_and,Bool.and_false,Bool.true_and,Bool.and_true,Bool.not_true,Bool.false_or])
     ·cases hc3
    |true=>
     cases d2:decide ((10000:Int)<(q.2.1.len:Int)) with
     |true=>
      have d2':decide (q.2.1.len≤10000)=false:=by simp at d2 ⊢;omega
      refine⟨_,(by simp(disch:=omega) only[uB,uT,Nat.reduceEqDiff,↓reduceIte,uE,aC,aB,fF,iD,kj,j7,gS,Nat.zero_add,lk4,lv4,ld4,aP,Bool.not_true,Bool.not_false,aJ aE,bk,gw hm24,d1,d2];exact rfl),?_⟩
      refine uH ?_
      refine uJ [1,6,7,8,48] ?_
      refine ae rfl rfl (fun hc3=>?_) (fun hc3=>?_)
      ·refine uG ?_
       refine Fin.jn [2] ?_
       exact fl (by rw[hk];simp only[d1,d2',Bool.false_and,Bool.and_false,Bool.true_and,Bool.and_true,Bool.not_true,Bool.false_or])
      ·cases hc3
     |false=>
      have d2':decide (q.2.1.len≤10000)=true:=by simp at d2 ⊢;omega
      cases d3:q.2.2 with
      |true=>
       rw[d3] at ld4
       cases d6:q.2.1.beq bu with
       |false=>
        refine⟨_,(by simp(disch:=omega) only[uB,uT,Nat.reduceEqDiff,↓reduceIte,uE,aC,aB,fF,iD,kj,j7,gS,Nat.zero_add,lk4,lv4,ld4,aP,Bool.not_true,Bool.not_false,aJ aE,bk,gw hm24,d1,d2,d6];exact rfl),?_⟩
        refine uH ?_
        refine uJ [1,6,7,8,48] ?_
        refine ae rfl rfl (fun hc3=>?_) (fun hc3=>?_)
        ·refine uG ?_
         refine Fin.jn [2] ?_
         exact fl (by rw[hk];simp only[d1,d2',d3,d6,Bool.false_and,Bool.and_false,Bool.true_and,Bool.and_true,Bool.not_true,Bool.false_or])
        ·cases hc3
       |true=>
        cases d4:decide ((0:Int)<(i:Int)) with
        |false=>
         have hi0:decide (i=0)=true:=by simp at d4;simp;omega
         refine⟨_,(by simp(disch:=omega) only[uB,uT,Nat.reduceEqDiff,↓reduceIte,uE,aC,aB,fF,iD,kj,j7,gS,Nat.zero_add,lk4,lv4,ld4,aP,Bool.not_true,Bool.not_false,aJ aE,bk,gw hm24,d1,d2,d6,d4];exact rfl),?_⟩
         refine uH ?_
         refine uJ [1,6,7,8,48] ?_
         refine ae rfl rfl (fun hc3=>?_) (fun hc3=>?_)
         ·cases hc3
         ·refine uG ?_
          exact nx (by rw[hk];simp only[d1,d2',d3,d6,hi0,Bool.true_and,Bool.and_true,Bool.not_false,Bool.true_or,Bool.or_true,Bool.false_or]) (by simp[aI,az])
        |true=>
         have hi0:decide (i=0)=false:=by simp at d4;simp;omega
         have hi2:0<i:=by simpa using d4
         obtain⟨p,hp⟩:∃p,ws[i- 1]? =some p:=⟨_,List.getElem?_eq_getElem (by omega)⟩
         obtain⟨b6,off6,c6,x6,t6,n6,e6,l6,j2,j3⟩:=(hcw.mod hm24 (fun _ _ h=>h)).at (i:=i- 1) (r:=wrt p) (by simp[hp])
         rw[List.length_map] at e6
         cases e6
         have j4:t6.get (off5+(i- 1)*3)=some (.str p.1):=by have:=(aR.mp j3).2 0 _ rfl;simpa using this
         have hgp:ws.getD (i- 1) dW=p:=jO hp
         have hi1:(i:Int)- 1=((i- 1:Nat):Int):=by omega
         have hln:=pw (a:=q.1) (b:=p.1)
         cases d5:p.1.lt q.1 with
         |true=>
          rw[d5] at hln
          refine⟨_,(by simp(disch:=omega) only[uB,uT,Nat.reduceEqDiff,↓reduceIte,uE,aC,aB,fF,iD,kj,j7,gS,Nat.zero_add,lk4,lv4,ld4,aP,Bool.not_true,Bool.not_false,aJ aE,bk,gw hm24,d1,d2,d6,d4,hi1,aQ ct bT,ah aE rfl aF j2 j4,Int.toNat_natCast,hln];exact rfl),?_⟩
          refine uH ?_
          refine uJ [1,6,7,8,48] ?_
          refine ae rfl rfl (fun hc3=>?_) (fun hc3=>?_)
          ·cases hc3
          ·refine uG ?_
           exact nx (by rw[hk];simp only[d1,d2',d3,d6,hi0,hgp,d5,Bool.true_and,Bool.and_true,Bool.not_false,Bool.true_or,Bool.or_true,Bool.false_or]) (by simp[aI,az])
         |false=>
          rw[d5] at hln
          refine⟨_,(by simp(disch:=omega) only[uB,uT,Nat.reduceEqDiff,↓reduceIte,uE,aC,aB,fF,iD,kj,j7,gS,Nat.zero_add,lk4,lv4,ld4,aP,Bool.not_true,Bool.not_false,aJ aE,bk,gw hm24,d1,d2,d6,d4,hi1,aQ ct bT,ah aE rfl aF j2 j4,Int.toNat_natCast,hln];exact rfl),?_⟩
          refine uH ?_
          refine uJ [1,6,7,8,48] ?_
          refine ae rfl rfl (fun hc3=>?_) (fun hc3=>?_)
          ·refine uG ?_
           refine Fin.jn [2] ?_
           exact fl (by rw[hk];simp only[d1,d2',d3,d6,hi0,hgp,d5,Bool.false_and,Bool.and_false,Bool.true_and,Bool.and_true,Bool.not_true,Bool.false_or])
          ·cases hc3
      |false=>
       rw[d3] at ld4
       cases d4:decide ((0:Int)<(i:Int)) with
       |false=>
        have hi0:decide (i=0)=true:=by simp at d4;simp;omega
        refine⟨_,(by simp(disch:=omega) only[uB,uT,Nat.reduceEqDiff,↓reduceIte,uE,aC,aB,fF,iD,kj,j7,gS,Nat.zero_add,lk4,lv4,ld4,aP,Bool.not_true,Bool.not_false,aJ aE,bk,gw hm24,d1,d2,d4];exact rfl),?_⟩
        refine uH ?_
        refine uJ [1,6,7,8,48] ?_
        refine ae rfl rfl (fun hc3=>?_) (fun hc3=>?_)
        ·cases hc3
        ·refine uG ?_
         exact nx (by rw[hk];simp only[d1,d2',d3,hi0,Bool.true_and,Bool.and_true,Bool.not_false,Bool.true_or,Bool.or_true,Bool.false_or]) (by simp[aI,az])
       |true=>
        have hi0:decide (i=0)=false:=by simp at d4;simp;omega
        have hi2:0<i:=by simpa using d4
        obtain⟨p,hp⟩:∃p,ws[i- 1]? =some p:=⟨_,List.getElem?_eq_getElem (by omega)⟩
        obtain⟨b6,off6,c6,x6,t6,n6,e6,l6,j2,j3⟩:=(hcw.mod hm24 (fun _ _ h=>h)).at (i:=i- 1) (r:=wrt p) (by simp[hp])
        rw[List.length_map] at e6
        cases e6
        have j4:t6.get (off5+(i- 1)*3)=some (.str p.1):=by have:=(aR.mp j3).2 0 _ rfl;simpa using this
        have hgp:ws.getD (i- 1) dW=p:=jO hp
        have hi1:(i:Int)- 1=((i- 1:Nat):Int):=by omega
        have hln:=pw (a:=q.1) (b:=p.1)
        cases d5:p.1.lt q.1 with
        |true=>
         rw[d5] at hln
         refine⟨_,(by simp(disch:=omega) only[uB,uT,Nat.reduceEqDiff,↓reduceIte,uE,aC,aB,fF,iD,kj,j7,gS,Nat.zero_add,lk4,lv4,ld4,aP,Bool.not_true,Bool.not_false,aJ aE,bk,gw hm24,d1,d2,d4,hi1,aQ ct bT,ah aE rfl aF j2 j4,Int.toNat_natCast,hln];exact rfl),?_⟩
         refine uH ?_
         refine uJ [1,6,7,8,48] ?_
         refine ae rfl rfl (fun hc3=>?_) (fun hc3=>?_)
         ·cases hc3
         ·refine uG ?_
          exact nx (by rw[hk];simp only[d1,d2',d3,hi0,hgp,d5,Bool.true_and,Bool.and_true,Bool.not_false,Bool.true_or,Bool.or_true,Bool.false_or]) (by simp[aI,az])
        |false=>
         rw[d5] at hln
         refine⟨_,(by simp(disch:=omega) only[uB,uT,Nat.reduceEqDiff,↓reduceIte,uE,aC,aB,fF,iD,kj,j7,gS,Nat.zero_add,lk4,lv4,ld4,aP,Bool.not_true,Bool.not_false,aJ aE,bk,gw hm24,d1,d2,d4,hi1,aQ ct bT,ah aE rfl aF j2 j4,Int.toNat_natCast,hln];exact rfl),?_⟩
         refine uH ?_
         refine uJ [1,6,7,8,48] ?_
         refine ae rfl rfl (fun hc3=>?_) (fun hc3=>?_)
         ·refine uG ?_
          refine Fin.jn [2] ?_
          exact fl (by rw[hk];simp only[d1,d2',d3,hi0,hgp,d5,Bool.false_and,Bool.and_false,Bool.true_and,Bool.and_true,Bool.not_true,Bool.false_or])
         ·cases hc3
   ·rintro r s' ⟨_,e,_⟩
    cases e
  ·simp at hc2
   have:i=ws.length:=by omega
   subst this
   refine uG ?_
   exact dD [(1, .ptr (some (s.nx,0)))] ⟨rfl,hm2,hall⟩ (by simp[aI,az])
 ·rintro L s2 ⟨rfl,hm2,hws⟩
  have e1:decide ((c.writes.length:Int)≤200)=decide (c.writes.length≤200):=by rw[Bool.eq_iff_iff,decide_eq_true_iff,decide_eq_true_iff];omega
  repeat(first|refine uS ?_ |refine aa rfl ?_ |refine ad (by simp(disch:=omega) only[uB,uT,gS,Nat.zero_add,gw hm2];exact rfl) ?_)
  refine ai rfl ?_
  refine⟨s2,?_,hm1.trans hm2 (fun _ _ h=>h)⟩
  unfold gE
  rw[hws,e1];rfl
end
end Go.Proofs.Ytofohkdkpbigiaa
end
