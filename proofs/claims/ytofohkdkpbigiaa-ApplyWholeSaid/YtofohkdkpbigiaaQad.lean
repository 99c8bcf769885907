/-
  A part of the texts.
-/
import Derived.Laws.StructEq
import Derived.Laws.BytesString
import Derived.Laws.Slices
import Derived.Test.YtofohkdkpbigiaaQac
section
namespace Go.Am
theorem iS {k:IntKind}{n:Int}(h:fits k n=true):k.wrap n=n:=by
 have hb:k.min≤n∧n≤k.max:=by
  cases n with
  |ofNat m=>cases k<;>simp only[fits,Nat.blt_eq] at h<;>simp only[IntKind.min,IntKind.max,IntKind.bits,IntKind.signed,if_true,Bool.false_eq_true,if_false]<;>simp only[Int.ofNat_eq_natCast]<;>omega
  |negSucc m=>cases k<;>simp only[fits,Nat.blt_eq,Bool.false_eq_true] at h<;>simp only[IntKind.min,IntKind.max,IntKind.bits,IntKind.signed,if_true]<;>simp only[Int.negSucc_eq]<;>omega
 generalize n=n at hb
 unfold IntKind.wrap
 cases k<;>simp only[IntKind.min,IntKind.max,IntKind.bits,IntKind.signed,if_true,Bool.false_eq_true,if_false,Bool.true_and,Bool.false_and,decide_eq_true_eq,ge_iff_le] at hb ⊢ <;>first|omega|(split<;>omega)
theorem LI {k:IntKind}{n b:Nat}(h:fits k (b:Int)=true)(hn:n<b):fits k (n:Int)=true:=by
 have h:fits k (.ofNat b)=true:=h
 show fits k (.ofNat n)=true
 cases k<;>simp only[fits,Nat.blt_eq] at h ⊢ <;>omega
theorem tQ (k:IntKind)(n:Int):wr k n=k.wrap n:=by
 unfold wr;split
 ·rename_i h;exact(iS h).symm
 ·rfl
theorem fj (k:IntKind)(x:Int):(BitVec.ofInt k.bits x).toNat=(x % (2^k.bits:Int)).toNat:=by
 rw[BitVec.toNat_ofInt]
 congr 1
theorem ua {op:BinOp}{k:IntKind}{x y r:Int}{P:Program}{w:World}(h:bitsOf op k x y=some r):(Op.intBits op k x y).run P w= .ok (.int k r) w:=by
 unfold bitsOf at h
 cases op<;>simp only[Option.some.injEq,reduceCtorEq] at h<;>subst h<;>simp only[Op.intBits,Sem.run_pure,tQ]
 ·rw[BitVec.toNat_and,fj,fj];rfl
 ·rw[BitVec.toNat_or,fj,fj];rfl
 ·rw[BitVec.toNat_xor,fj,fj];rfl
 ·rw[BitVec.toNat_and,BitVec.toNat_not,fj,fj];rfl
theorem Du {op:BinOp}{k:IntKind}{x y:Int}{v:AV}{t:TypeId}{P:Program}{w:World}{ι:Inj}(hs:op≠ .shl∧op≠ .shr)(h:kM op k x y=some v):
  ∃cv,(binOp op t (.int k x) (.int k y)).run P w= .ok cv w∧VR ι v cv:=by
 cases op<;>simp only[kM] at h
 case shl=>exact absurd rfl hs.1
 case shr=>exact absurd rfl hs.2
 case quo=>
  split at h
  ·cases h
  ·rename_i h0;cases h;exact⟨.int k (k.wrap (x.tdiv y)),by simp[binOp,Op.intDiv,h0],by simp[VR,tQ]⟩
 case rem=>
  split at h
  ·cases h
  ·rename_i h0;cases h;exact⟨.int k (x.tmod y),by simp[binOp,Op.intDiv,h0],by simp[VR]⟩
 case add=>cases h;exact⟨.int k (k.wrap (x+y)),by simp[binOp,Op.intArith],by simp[VR,tQ]⟩
 case sub=>cases h;exact⟨.int k (k.wrap (x- y)),by simp[binOp,Op.intArith],by simp[VR,tQ]⟩
 case mul=>cases h;exact⟨.int k (k.wrap (x*y)),by simp[binOp,Op.intArith],by simp[VR,tQ]⟩
 case eql=>cases h;exact⟨.bool (x==y),by simp[binOp,Op.intCmp],by simp only[VR]<;>rfl⟩
 case neq=>cases h;exact⟨.bool (x != y),by simp[binOp,Op.intCmp],by simp only[VR]<;>rfl⟩
 case lss=>cases h;exact⟨.bool (decide (x<y)),by simp[binOp,Op.intCmp],by simp[VR]⟩
 case leq=>cases h;exact⟨.bool (decide (x≤y)),by simp[binOp,Op.intCmp],by simp[VR]⟩
 case gtr=>cases h;exact⟨.bool (decide (x>y)),by simp[binOp,Op.intCmp],by simp[VR]⟩
 case geq=>cases h;exact⟨.bool (decide (x≥y)),by simp[binOp,Op.intCmp],by simp[VR]⟩
 all_goals
  split at h
  ·rename_i r hr;cases h
   exact⟨.int k r,by simp[binOp,ua hr],by simp[VR]⟩
  ·cases h
theorem sF {op:BinOp}{k j:IntKind}{x y:Int}{v:AV}{t:TypeId}{P:Program}{w:World}{ι:Inj}(hs:op= .shl∨op= .shr)(h:oM op k x y=some v):
  ∃cv,(binOp op t (.int k x) (.int j y)).run P w= .ok cv w∧VR ι v cv:=by
 unfold oM at h
 split at h
 ·cases h
 ·rename_i h0
  rcases hs with rfl|rfl<;>simp only[Option.some.injEq] at h<;>subst h
  ·exact⟨.int k (k.wrap (x*2^min y.toNat k.bits)),by simp[binOp,Op.shift,h0],by simp[VR,tQ]⟩
  ·exact⟨.int k (x.fdiv (2^min y.toNat k.bits)),by simp[binOp,Op.shift,h0],by simp[VR]⟩
theorem iU (a b:List UInt8):gi (a++b)=gi a*256^b.length+gi b:=by
 have key:∀ (b:List UInt8) (n:Nat),b.foldl (fun a b=>a*256+b.toNat) n=n*256^b.length+b.foldl (fun a b=>a*256+b.toNat) 0:=by
  intro b
  induction b with
  |nil=>intro n;simp
  |cons x b ih=>
   intro n
   simp only[List.foldl_cons,List.length_cons]
   rw[ih (n*256+x.toNat),ih (0*256+x.toNat)]
   have:n*256^ (b.length+1)=n*256*256^b.length:=by rw[Nat.pow_succ,Nat.mul_comm (256^b.length) 256,Nat.mul_assoc]
   rw[this]
   simp only[Nat.add_mul,Nat.zero_mul,Nat.zero_add]
   omega
 unfold gi
 rw[List.foldl_append,key b]
theorem nJ (x:UInt8)(l:List UInt8):gi (x::l)=x.toNat*256^l.length+gi l:=by
 have:=iU [x] l
 simpa[gi] using this
theorem mE:∀ (l:List UInt8),gi l<256^l.length
 |[]=>by simp[gi]
 |x::l=>by
  rw[nJ]
  have h1:=mE l
  have h2:x.toNat<256:=UInt8.toNat_lt x
  simp only[List.length_cons,Nat.pow_succ]
  have h3:x.toNat*256^l.length≤255*256^l.length:=Nat.mul_le_mul_right _ (by omega)
  omega
theorem vE:∀ {a b:List UInt8},a.length=b.length→gi a=gi b→a=b
 |[],[],_,_=>rfl
 |[],_::_,h,_=>by simp at h
 | _::_,[],h,_=>by simp at h
 |x::a,y::b,hl,h=>by
  simp only[List.length_cons,Nat.add_right_cancel_iff] at hl
  rw[nJ,nJ,hl] at h
  have h1:=mE a
  have h2:=mE b
  rw[hl] at h1
  have hp:0<256^b.length:=Nat.pow_pos (by decide)
  have e1:(x.toNat*256^b.length+gi a)/256^b.length=x.toNat:=by
   rw[Nat.mul_comm,Nat.mul_add_div hp,Nat.div_eq_of_lt h1];rfl
  have e2:(y.toNat*256^b.length+gi b)/256^b.length=y.toNat:=by
   rw[Nat.mul_comm,Nat.mul_add_div hp,Nat.div_eq_of_lt h2];rfl
  have e3:x.toNat=y.toNat:=by rw[←e1,←e2,h]
  have e4:x=y:=UInt8.toNat_inj.mp e3
  subst e4
  rw[vE hl (by omega)]
theorem tD (l:List UInt8)(n:Nat):gi (l.take n)=gi l/256^ (l.length- n):=by
 have h1:=iU (l.take n) (l.drop n)
 rw[List.take_append_drop,List.length_drop] at h1
 have h2:=mE (l.drop n)
 rw[List.length_drop] at h2
 rw[h1,Nat.mul_comm,Nat.mul_add_div (Nat.pow_pos (by decide)),Nat.div_eq_of_lt h2];rfl
theorem Fh (l:List UInt8)(n:Nat):gi (l.drop n)=gi l % 256^ (l.length- n):=by
 have h1:=iU (l.take n) (l.drop n)
 rw[List.take_append_drop,List.length_drop] at h1
 have h2:=mE (l.drop n)
 rw[List.length_drop] at h2
 rw[h1,Nat.mul_comm,Nat.mul_add_mod,Nat.mod_eq_of_lt h2]
theorem HJ (l:List UInt8)(i:Nat)(h:i<l.length):gi l/256^ (l.length- 1- i) % 256=l[i].toNat:=by
 have h1:=tD l (i+1)
 have e:l.length- (i+1)=l.length- 1- i:=by omega
 rw[e] at h1
 rw[←h1,List.take_succ_eq_append_getElem h,iU]
 simp[gi]
theorem toList_data (s:ByteArray):s.toList=s.data.toList:=ByteArray.toList_eq s
theorem Str.NB (a b:ByteArray):Str.of (a++b)=(Str.of a).cat (Str.of b):=by
 simp[Str.of,Str.cat,ByteArray.data_append,iU]
theorem Str.Cr (a b:ByteArray):(Str.of a).beq (Str.of b)=decide (a.data.toList=b.data.toList):=by
 unfold Str.beq Str.of
 by_cases h:a.data.toList=b.data.toList
 ·rw[decide_eq_true h,h];simp
 ·rw[decide_eq_false h]
  by_cases hl:a.data.toList.length=b.data.toList.length
  ·have:gi a.data.toList≠gi b.data.toList:=fun e=>h (vE hl e)
   simp only[Bool.and_eq_false_iff]
   right
   cases hb:Nat.beq (gi a.data.toList) (gi b.data.toList)
   ·rfl
   ·exact absurd (Nat.beq_eq.mp hb) this
  ·simp only[Bool.and_eq_false_iff]
   left
   cases hb:Nat.beq a.data.toList.length b.data.toList.length
   ·rfl
   ·exact absurd (Nat.beq_eq.mp hb) hl
theorem Str.N4 {a b:ByteArray}(h:Str.of a=Str.of b):a.data.toList=b.data.toList:=by
 simp only[Str.of,Str.mk.injEq] at h
 exact vE h.1 h.2
theorem DY:∀ (a b:List UInt8),Op.bytesLess a b=(let m:=min a.length b.length
  Nat.blt (gi (a.take m)) (gi (b.take m))|| (Nat.beq (gi (a.take m)) (gi (b.take m))&&Nat.blt a.length b.length))
 |[],[]=>by simp[Op.bytesLess,gi];rfl
 |[],_::_=>by simp[Op.bytesLess,gi,Nat.blt]
 | _::_,[]=>by simp[Op.bytesLess,gi,Nat.blt];exact⟨rfl,rfl⟩
 |x::a,y::b=>by
  have ih:=DY a b
  simp only[Op.bytesLess,List.length_cons,ih]
  have hm:min (a.length+1) (b.length+1)=min a.length b.length+1:=by omega
  simp only[hm,List.take_succ_cons,nJ]
  generalize hma:a.take (min a.length b.length)=a'
  generalize hmb:b.take (min a.length b.length)=b'
  have hla:a'.length=min a.length b.length:=by rw[←hma];simp
  have hlb:b'.length=min a.length b.length:=by rw[←hmb];simp
  have h1:=mE a'
  have h2:=mE b'
  rw[hla] at h1 ⊢
  rw[hlb] at h2 ⊢
  generalize 256^min a.length b.length=p at*
  have hx:(x<y)=(x.toNat<y.toNat):=by simp[UInt8.lt_iff_toNat_lt]
  have hxe:(x=y)=(x.toNat=y.toNat):=by simp[UInt8.toNat_inj]
  rw[Bool.eq_iff_iff]
  simp only[Bool.or_eq_true,Bool.and_eq_true,decide_eq_true_eq,beq_iff_eq,Nat.blt_eq,Nat.beq_eq,hx,hxe,Nat.add_lt_add_iff_right]
  generalize x.toNat=X
  generalize y.toNat=Y
  generalize gi a'=A at*
  generalize gi b'=B at*
  rcases Nat.lt_trichotomy X Y with h|h|h
  ·have:X*p+p≤Y*p:=by
    have:=Nat.mul_le_mul_right p (show X+1≤Y from h)
    rw[Nat.add_mul,Nat.one_mul] at this;exact this
   constructor
   ·intro _;left;omega
   ·intro _;left;exact h
  ·subst h
   constructor
   ·rintro(h|⟨_,h|⟨h,h'⟩⟩)
    ·omega
    ·left;omega
    ·right;exact⟨by omega,h'⟩
   ·rintro(h|⟨h,h'⟩)
    ·right;exact⟨rfl, .inl (by omega)⟩
    ·right;exact⟨rfl, .inr ⟨by omega,h'⟩⟩
  ·have:Y*p+p≤X*p:=by
    have:=Nat.mul_le_mul_right p (show Y+1≤X from h)
    rw[Nat.add_mul,Nat.one_mul] at this;exact this
   constructor
   ·rintro(h'|⟨h',_⟩)<;>omega
   ·rintro(h'|⟨h',_⟩)<;>omega
theorem Str.Mt (a b:ByteArray):(Str.of a).lt (Str.of b)=Op.bytesLess a.data.toList b.data.toList:=by
 rw[DY]
 simp only[Str.lt,Str.of,tD]
theorem C1 {op:BinOp}{x y:ByteArray}{v:AV}{t:TypeId}{P:Program}{w:World}{ι:Inj}(h:Bj op (Str.of x) (Str.of y)=some v):
  ∃cv,(binOp op t (.string x) (.string y)).run P w= .ok cv w∧VR ι v cv:=by
 have hb:(Str.of x).beq (Str.of y)=(x.toList==y.toList):=by
  rw[Str.Cr,toList_data,toList_data]
  rw[Bool.eq_iff_iff];simp
 have hlt:(Str.of x).lt (Str.of y)=Op.bytesLess x.toList y.toList:=by rw[Str.Mt,toList_data,toList_data]
 cases op<;>simp only[Bj,hb,hlt,reduceCtorEq] at h
 case add=>
  split at h
  ·rename_i hle
   cases h
   have hle:x.size+y.size≤9223372036854775807:=by
    have:=Nat.ble_eq.mp hle
    simpa[Str.of] using this
   have hmax:¬(IntKind.i64.max<((x.size+y.size:Nat):Int)):=by
    simp only[IntKind.max,IntKind.signed,IntKind.bits,if_true];omega
   refine⟨.string (x++y),?_,?_⟩
   ·simp only[binOp,Op.stringOp,gt_iff_lt,hmax,if_false,Sem.run_pure]
   ·simp only[VR];exact⟨_,rfl,(Str.NB x y).symm⟩
  ·cases h
 all_goals
  cases h
  exact⟨_,by simp[binOp,Op.stringOp];rfl,by simp[VR]⟩
section
variable {P:Program}{X:Ctx}(hX:dU P X){ι:Inj}
include hX
theorem mD {t:TypeId}{l:List AV}{m:Array Value}{off:Nat}{v:AV}{w:World}(h:partAt X t l off=some v)(hl:VRs ι l m.toList):
  ∃cv,(part t m off).run P w= .ok cv w∧VR ι v cv:=by
 unfold partAt at h
 split at h
 ·rename_i d n hd hn
  split at h
  ·rename_i hagg
   split at h
   ·rename_i hle
    cases h
    refine⟨.agg (m.extract off (off+n)),by simp[part,nt hX hd,hagg,cO hX hn],?_⟩
    simp only[VR]
    refine⟨_,rfl,?_⟩
    have:(m.extract off (off+n)).toList=(m.toList.drop off).take n:=by
     rw[Array.toList_extract,List.extract_eq_take_drop]
     congr 1;omega
    rw[this]
    exact(hl.drop off).take n
   ·cases h
  ·rename_i hagg
   obtain⟨cv,h1,h2⟩:=hl.get h
   have h1:m[off]? =some cv:=by simpa using h1
   exact⟨cv,by simp[part,nt hX hd,hagg,h1],h2⟩
 ·cases h
theorem qp {eq:TypeId→AV→AV→Option Bool}{xs ys:List AV}{cxs cys:Array Value}{d:Nat}(hx:VRs ι xs cxs.toList)(hy:VRs ι ys cys.toList)
  (heq:∀t x y b,eq t x y=some b→∀cx cy w,VR ι x cx→VR ι y cy→(Op.equalIn d t cx cy).run P w= .ok b w):
  ∀ {fs:List Field} {b:Bool} {w:World},eqFields X eq xs ys fs=some b→(Op.eqFields d cxs cys fs).run P w= .ok b w
 |[],b,w,h=>by simp[eqFields] at h;subst h;simp[Op.eqFields]
 |fd::fds,b,w,h=>by
  simp only[eqFields] at h
  split at h
  ·cases h
  ·rename_i hne
   split at h
   ·rename_i a c ha hc
    obtain⟨ca,r1,v1⟩:=mD hX (w:=w) ha hx
    obtain⟨cc,r2,v2⟩:=mD hX (w:=w) hc hy
    have hif:(fd.name≠ "_")=True:=by simp[hne]
    split at h
    ·rename_i heqt
     have r3:=heq _ _ _ _ heqt ca cc w v1 v2
     simp only[Op.eqFields,hif,if_true,Sem.run_bind,r1,r2,r3,Result.andThen_ok,Bool.not_true,Bool.false_eq_true,if_false]
     exact qp hx hy heq h
    ·rename_i r hr
     cases b with
     |true=>exact absurd h hr
     |false=>
      have r3:=heq _ _ _ _ h ca cc w v1 v2
      simp only[Op.eqFields,hif,if_true,Sem.run_bind,r1,r2,r3,Result.andThen_ok,Bool.not_false,if_true,Sem.run_pure]
   ·cases h
theorem yr:∀ (f:Nat) (t:TypeId) (x y:AV) (b:Bool),je X f t x y=some b→∀ (d:Nat),f≤d→∀ (cx cy:Value) (w:World),VR ι x cx→VR ι y cy→(Op.equalIn d t cx cy).run P w= .ok b w
 |0,t,x,y,b,h=>by simp[je] at h
 |f+1,t,x,y,b,h=>by
  intro d hd cx cy w hx hy
  obtain⟨d,rfl⟩:∃e,d=e+1:=⟨d- 1,by omega⟩
  simp only[je] at h
  split at h
  ·rename_i a c hu;simp only[VR] at hx hy;subst hx;subst hy;cases h;simp[Op.equalIn,aL hX hu]
  ·rename_i j a k c hu
   split at h
   ·rename_i hjk;simp only[VR] at hx hy;subst hx;subst hy;subst hjk;cases h
    simp only[Op.equalIn,Sem.run_bind,aL hX hu,Result.andThen_ok,if_true,Sem.run_pure];rfl
   ·cases h
  ·rename_i a c hu
   simp only[VR] at hx hy;obtain⟨ba,rfl,rfl⟩:=hx;obtain⟨bc,rfl,rfl⟩:=hy;cases h
   simp only[Op.equalIn,Sem.run_bind,aL hX hu,Result.andThen_ok,Sem.run_pure,Str.Cr]
   rw[beq_toListBytes,toList_data,toList_data]
   congr 1
   rw[Bool.eq_iff_iff];simp
  ·rename_i e c hu
   simp only[VR] at hx;subst hx
   cases c with
   |none=>simp only[VR] at hy;subst hy;cases h;simp[Op.equalIn,aL hX hu]
   |some p=>simp only[VR] at hy;obtain⟨_,_,_,rfl⟩:=hy;cases h;simp[Op.equalIn,aL hX hu]
  ·rename_i e p hu
   simp only[VR] at hx hy;obtain⟨_,_,_,rfl⟩:=hx;subst hy;cases h;simp[Op.equalIn,aL hX hu]
  ·rename_i e n1 c1 x1 a n2 c2 x2 hu
   simp only[VR] at hx;obtain⟨_,_,_,rfl⟩:=hx
   cases a with
   |none=>simp only[VR] at hy;obtain⟨_,_,_,rfl⟩:=hy;cases h;simp[Op.equalIn,aL hX hu]
   |some p=>simp only[VR] at hy;obtain⟨_,_,_,_,_,rfl,_⟩:=hy;cases h;simp[Op.equalIn,aL hX hu]
  ·rename_i e p n1 c1 x1 n2 c2 x2 hu
   simp only[VR] at hx hy;obtain⟨_,_,_,_,_,rfl,_⟩:=hx;obtain⟨_,_,_,rfl⟩:=hy;cases h;simp[Op.equalIn,aL hX hu]
  ·rename_i k e c hu
   simp only[VR] at hx;subst hx
   cases c with
   |none=>simp only[VR] at hy;subst hy;cases h;simp[Op.equalIn,aL hX hu]
   |some p=>simp only[VR] at hy;obtain⟨_,_,_,rfl⟩:=hy;cases h;simp[Op.equalIn,aL hX hu]
  ·rename_i k e p hu
   simp only[VR] at hx hy;obtain⟨_,_,_,rfl⟩:=hx;subst hy;cases h;simp[Op.equalIn,aL hX hu]
  ·rename_i ms hu
   simp only[VR] at hx hy;subst hx;subst hy
   split at h
   ·cases h;simp[Op.equalIn,aL hX hu]
   ·cases h
  ·rename_i ms u v hu
   simp only[VR] at hx hy;subst hx;obtain⟨_,rfl,_⟩:=hy;cases h;simp[Op.equalIn,aL hX hu]
  ·rename_i ms u v hu
   simp only[VR] at hx hy;subst hy;obtain⟨_,rfl,_⟩:=hx;cases h;simp[Op.equalIn,aL hX hu]
  ·rename_i fs xs ys hu
   split at h
   ·rename_i hok
    simp only[VR] at hx hy;obtain⟨cxs,rfl,hx⟩:=hx;obtain⟨cys,rfl,hy⟩:=hy
    have hfs:P.fieldsOf t=fs:=by simp[Program.fieldsOf,fG hX hu]
    rw[run_equalIn_struct w d t cxs cys (by rw[hfs];exact fG hX hu) (hX.eqs t hok).1,hfs]
    exact qp hX hx hy (fun t' x' y' b' he cx' cy' w' h1 h2=>yr f t' x' y' b' he d (by omega) cx' cy' w' h1 h2) h
   ·cases h
  ·rename_i hu
   simp only[VR] at hx hy;subst hx;subst hy;cases h;simp[Op.equalIn,aL hX hu]
  ·rename_i hu
   simp only[VR] at hx hy;subst hx;obtain⟨_,_,rfl,_⟩:=hy;cases h;simp[Op.equalIn,aL hX hu]
  ·rename_i hu
   simp only[VR] at hx hy;subst hy;obtain⟨_,_,rfl,_⟩:=hx;cases h;simp[Op.equalIn,aL hX hu]
  ·cases h
omit hX in
theorem Cu {op:BinOp}{k:FloatKind}{x y:Nat}{v:AV}{t:TypeId}{w:World}(h:BY op k x y=some v):∃cv,(binOp op t (.float k x) (.float k y)).run P w= .ok cv w∧VR ι v cv:=by
 have ar:∀ (o:Option Nat),vJ k o=some v→∃r,o=some r∧v= .flt k r:=fun o ho=>by
  cases o with
  |none=>cases ho
  |some r=>cases ho;exact⟨r,rfl,rfl⟩
 unfold BY at h
 cases op<;>simp only[Option.some.injEq,reduceCtorEq] at h
 case add=>obtain⟨r,h1,rfl⟩:=ar _ h;exact⟨.float k r,by simp[binOp,Op.floatArith,h1],by simp[VR]⟩
 case sub=>obtain⟨r,h1,rfl⟩:=ar _ h;exact⟨.float k r,by simp[binOp,Op.floatArith,h1],by simp[VR]⟩
 case mul=>obtain⟨r,h1,rfl⟩:=ar _ h;exact⟨.float k r,by simp[binOp,Op.floatArith,h1],by simp[VR]⟩
 case quo=>obtain⟨r,h1,rfl⟩:=ar _ h;exact⟨.float k r,by simp[binOp,Op.floatArith,h1],by simp[VR]⟩
 all_goals(subst h;exact⟨.bool _,by simp[binOp,Op.floatCmp];rfl,by simp[VR]⟩)
theorem vG {op:BinOp}{t:TypeId}{ox oy:Operand}{x y v:AV}{cx cy:Value}{w:World}(h:gh X op t x y=some v)(hx:VR ι x cx)(hy:VR ι y cy):
  ∃cv,(do eqGuard op t ox oy cx cy;binOp op t cx cy:Sem Value).run P w= .ok cv w∧VR ι v cv:=by
 unfold gh at h
 have plain:∀ (cx cy:Value),(∀a,cx≠ .agg a)→cx≠ .nilIface→(eqGuard op t ox oy cx cy).run P w= .ok () w:=fun cx cy h1 h2=>by
  unfold eqGuard
  cases op<;>simp
  all_goals
   split
   ·exact absurd rfl h2
   ·exact absurd rfl (h1 _)
   ·rfl
 split at h
 ·rename_i k a j c
  simp only[VR] at hx hy;subst hx;subst hy
  have hg:=plain (.float k a) (.float j c) (by simp) (by simp)
  split at h
  ·rename_i hk;subst hk
   obtain⟨cv,h1,h2⟩:=Cu (P:=P) (w:=w) (ι:=ι) (t:=t) h
   exact⟨cv,by simp only[Sem.run_bind,hg,Result.andThen_ok,h1],h2⟩
  ·cases h
 ·rename_i k a j c
  simp only[VR] at hx hy;subst hx;subst hy
  have hg:=plain (.int k a) (.int j c) (by simp) (by simp)
  split at h
  ·obtain⟨cv,h1,h2⟩:=sF (P:=P) (w:=w) (ι:=ι) (t:=t) (j:=j) (.inl rfl) h
   exact⟨cv,by simp only[Sem.run_bind,hg,Result.andThen_ok,h1],h2⟩
  ·obtain⟨cv,h1,h2⟩:=sF (P:=P) (w:=w) (ι:=ι) (t:=t) (j:=j) (.inr rfl) h
   exact⟨cv,by simp only[Sem.run_bind,hg,Result.andThen_ok,h1],h2⟩
  ·rename_i hs1 hs2
   split at h
   ·rename_i hkj;subst hkj
    obtain⟨cv,h1,h2⟩:=Du (P:=P) (w:=w) (ι:=ι) (t:=t) ⟨hs1,hs2⟩ h
    exact⟨cv,by simp only[Sem.run_bind,hg,Result.andThen_ok,h1],h2⟩
   ·cases h
 ·rename_i a c
  simp only[VR] at hx hy;obtain⟨ba,rfl,rfl⟩:=hx;obtain⟨bc,rfl,rfl⟩:=hy
  have hg:=plain (.string ba) (.string bc) (by simp) (by simp)
  obtain⟨cv,h1,h2⟩:=C1 (P:=P) (w:=w) (ι:=ι) (t:=t) h
  exact⟨cv,by simp only[Sem.run_bind,hg,Result.andThen_ok,h1],h2⟩
 ·rename_i hnf hni hns
  have key:∀b,je X 20 t x y=some b→(eqGuard op t ox oy cx cy).run P w= .ok () w∧(Op.equal t cx cy).run P w= .ok b w∧
    (binOp .eql t cx cy).run P w= .ok (.bool b) w∧(binOp .neq t cx cy).run P w= .ok (.bool (!b)) w:=fun b hb=>by
   have he:(Op.equal t cx cy).run P w= .ok b w:=yr hX 20 t x y b hb Op.maxDepth (by decide) cx cy w hx hy
   have hform:(∃a c,x= .bool a∧y= .bool c)∨(∃a c,x= .ptr a∧y= .ptr c)∨(∃a n c e a' n' c' e',x= .slc a n c e∧y= .slc a' n' c' e')∨(∃a c,x= .map a∧y= .map c)∨
     (x= .nilIface∧y= .nilIface∧∃ms,X.und t=some (.interface ms)∧ms.toList=[])∨(∃u v,x= .nilIface∧y= .iface u v)∨(∃u v,x= .iface u v∧y= .nilIface)∨(∃a c,x= .agg a∧y= .agg c∧dx t X.eqs=true)∨((x= .nilFunc∨∃f a b,x= .func f a b)∧(y= .nilFunc∨∃f a b,y= .func f a b)):=by
    have hb':=hb
    simp only[je] at hb'
    split at hb'
    case h_1=>exact .inl ⟨_,_,rfl,rfl⟩
    case h_2=>exact absurd rfl (hni _ _ _ _ rfl)
    case h_3=>exact absurd rfl (hns _ _ rfl)
    case h_4=>exact .inr (.inl ⟨_,_,rfl,rfl⟩)
    case h_5=>exact .inr (.inl ⟨_,_,rfl,rfl⟩)
    case h_6=>exact .inr (.inr (.inl ⟨_,_,_,_,_,_,_,_,rfl,rfl⟩))
    case h_7=>exact .inr (.inr (.inl ⟨_,_,_,_,_,_,_,_,rfl,rfl⟩))
    case h_8=>exact .inr (.inr (.inr (.inl ⟨_,_,rfl,rfl⟩)))
    case h_9=>exact .inr (.inr (.inr (.inl ⟨_,_,rfl,rfl⟩)))
    case h_10=>
     rename_i ms hu
     split at hb'
     ·rename_i hms;exact .inr (.inr (.inr (.inr (.inl ⟨rfl,rfl,_,hu,hms⟩))))
     ·cases hb'
    case h_11=>exact .inr (.inr (.inr (.inr (.inr (.inl ⟨_,_,rfl,rfl⟩)))))
    case h_12=>exact .inr (.inr (.inr (.inr (.inr (.inr (.inl ⟨_,_,rfl,rfl⟩))))))
    case h_13=>
     split at hb'
     ·rename_i hok;exact .inr (.inr (.inr (.inr (.inr (.inr (.inr (.inl ⟨_,_,rfl,rfl,hok⟩)))))))
     ·cases hb'
    case h_14=>exact .inr (.inr (.inr (.inr (.inr (.inr (.inr (.inr ⟨.inl rfl, .inl rfl⟩)))))))
    case h_15=>exact .inr (.inr (.inr (.inr (.inr (.inr (.inr (.inr ⟨.inl rfl, .inr ⟨_,_,_,rfl⟩⟩)))))))
    case h_16=>exact .inr (.inr (.inr (.inr (.inr (.inr (.inr (.inr ⟨.inr ⟨_,_,_,rfl⟩, .inl rfl⟩)))))))
    case h_17=>cases hb'
   rcases hform with⟨a,c,rfl,rfl⟩|⟨a,c,rfl,rfl⟩|⟨a,n,c,e,a',n',c',e',rfl,rfl⟩|⟨a,c,rfl,rfl⟩|⟨rfl,rfl,ms,hu,hms⟩|⟨u,v,rfl,rfl⟩|⟨u,v,rfl,rfl⟩|⟨a,c,rfl,rfl,hok⟩|⟨hfx,hfy⟩
   ·simp only[VR] at hx hy;subst hx;subst hy
    exact⟨plain _ _ (by simp) (by simp),he,by simp[binOp,he],by simp[binOp,he]⟩
   ·have f1:∃p,cx= .pointer p:=by
     cases a with
     |none=>simp only[VR] at hx;exact⟨_,hx⟩
     |some p=>simp only[VR] at hx;obtain⟨_,_,_,h⟩:=hx;exact⟨_,h⟩
    have f2:∃p,cy= .pointer p:=by
     cases c with
     |none=>simp only[VR] at hy;exact⟨_,hy⟩
     |some p=>simp only[VR] at hy;obtain⟨_,_,_,h⟩:=hy;exact⟨_,h⟩
    obtain⟨p,rfl⟩:=f1;obtain⟨q,rfl⟩:=f2
    exact⟨plain _ _ (by simp) (by simp),he,by simp[binOp,he],by simp[binOp,he]⟩
   ·have f1:∃p i j,cx= .slice p i j:=by
     cases a with
     |none=>simp only[VR] at hx;obtain⟨_,_,_,h⟩:=hx;exact⟨_,_,_,h⟩
     |some p=>simp only[VR] at hx;obtain⟨_,_,_,_,_,h,_⟩:=hx;exact⟨_,_,_,h⟩
    have f2:∃p i j,cy= .slice p i j:=by
     cases a' with
     |none=>simp only[VR] at hy;obtain⟨_,_,_,h⟩:=hy;exact⟨_,_,_,h⟩
     |some p=>simp only[VR] at hy;obtain⟨_,_,_,_,_,h,_⟩:=hy;exact⟨_,_,_,h⟩
    obtain⟨p,i,j,rfl⟩:=f1;obtain⟨q,k,l,rfl⟩:=f2
    exact⟨plain _ _ (by simp) (by simp),he,by simp[binOp,he],by simp[binOp,he]⟩
   ·have f1:∃p,cx= .map p:=by
     cases a with
     |none=>simp only[VR] at hx;exact⟨_,hx⟩
     |some p=>simp only[VR] at hx;obtain⟨_,_,_,h⟩:=hx;exact⟨_,h⟩
    have f2:∃p,cy= .map p:=by
     cases c with
     |none=>simp only[VR] at hy;exact⟨_,hy⟩
     |some p=>simp only[VR] at hy;obtain⟨_,_,_,h⟩:=hy;exact⟨_,h⟩
    obtain⟨p,rfl⟩:=f1;obtain⟨q,rfl⟩:=f2
    exact⟨plain _ _ (by simp) (by simp),he,by simp[binOp,he],by simp[binOp,he]⟩
   ·simp only[VR] at hx hy;subst hx;subst hy
    have hms':ms= #[]:=by
     cases ms;simpa using hms
    subst hms'
    have hg:(eqGuard op t ox oy .nilIface .nilIface).run P w= .ok () w:=by
     have hin:∀d,(Op.eqGuardIn (d+1) t .nilIface .nilIface).run P w= .ok false w:=fun d=>by
      simp[Op.eqGuardIn,aL hX hu]
     have hin:(Op.eqGuardIn Op.maxDepth t .nilIface .nilIface).run P w= .ok false w:=hin 9999
     unfold eqGuard
     cases op<;>simp[hin]
    exact⟨hg,he,by simp[binOp,he],by simp[binOp,he]⟩
   ·simp only[VR] at hx hy;subst hx;obtain⟨_,rfl,_⟩:=hy
    have hg:(eqGuard op t ox oy .nilIface (.iface u ‹_›)).run P w= .ok () w:=by
     unfold eqGuard
     cases op<;>simp
    exact⟨hg,he,by simp[binOp,he],by simp[binOp,he]⟩
   ·simp only[VR] at hx hy;subst hy;obtain⟨_,rfl,_⟩:=hx
    exact⟨plain _ _ (by simp) (by simp),he,by simp[binOp,he],by simp[binOp,he]⟩
   ·simp only[VR] at hx hy;obtain⟨cxs,rfl,_⟩:=hx;obtain⟨cys,rfl,_⟩:=hy
    exact⟨run_eqGuard_agg w op t ox oy cxs cys (hX.eqs t hok).2,he,by simp[binOp,he],by simp[binOp,he]⟩
   ·have f1:cx= .nilFunc∨∃f a b,cx= .func f a b:=by
     rcases hfx with rfl|⟨f,a,b,rfl⟩
     ·simp only[VR] at hx;exact .inl hx
     ·simp only[VR] at hx;obtain⟨p,q,h,_⟩:=hx;exact .inr ⟨_,_,_,h⟩
    have f2:cy= .nilFunc∨∃f a b,cy= .func f a b:=by
     rcases hfy with rfl|⟨f,a,b,rfl⟩
     ·simp only[VR] at hy;exact .inl hy
     ·simp only[VR] at hy;obtain⟨p,q,h,_⟩:=hy;exact .inr ⟨_,_,_,h⟩
    rcases f1 with rfl|⟨f,p,q,rfl⟩<;>rcases f2 with rfl|⟨g,u,v,rfl⟩<;>
     exact⟨plain _ _ (by simp) (by simp),he,by simp[binOp,he],by simp[binOp,he]⟩
  split at h
  ·split at h
   ·rename_i b hb;cases h
    obtain⟨h1,_,h3,_⟩:=key b hb
    exact⟨.bool b,by simp only[Sem.run_bind,h1,Result.andThen_ok,h3],by simp[VR]⟩
   ·cases h
  ·split at h
   ·rename_i b hb;cases h
    obtain⟨h1,_,_,h4⟩:=key b hb
    exact⟨.bool (!b),by simp only[Sem.run_bind,h1,Result.andThen_ok,h4],by simp[VR]⟩
   ·cases h
  ·cases h
theorem Bu {op:BinOp}{t:TypeId}{ox oy:Operand}{v:AV}{w:World}(hc:(qu ox||qu oy)=true)(h:yV X op t=some v):
  ∃cv,(do eqGuard op t ox oy .nilIface .nilIface;binOp op t .nilIface .nilIface:Sem Value).run P w= .ok cv w∧VR ι v cv:=by
 unfold yV at h
 split at h
 ·rename_i ms hu
  have he:(Op.equal t .nilIface .nilIface).run P w= .ok true w:=by
   have:∀d,(Op.equalIn (d+1) t .nilIface .nilIface).run P w= .ok true w:=fun d=>by simp[Op.equalIn,aL hX hu]
   exact this 9999
  have hg:(eqGuard op t ox oy .nilIface .nilIface).run P w= .ok () w:=by
   cases ox with
   |const _=>unfold eqGuard;cases op<;>simp
   | _=>
    cases oy with
    |const _=>unfold eqGuard;cases op<;>simp
    | _=>simp[qu] at hc
  split at h
  ·cases h
   exact⟨.bool true,by simp only[Sem.run_bind,hg,Result.andThen_ok];simp[binOp,he],by simp[VR]⟩
  ·cases h
   exact⟨.bool false,by simp only[Sem.run_bind,hg,Result.andThen_ok];simp[binOp,he],by simp[VR]⟩
  ·cases h
 ·cases h
theorem BT {op:BinOp}{t:TypeId}{ox oy:Operand}{x y v:AV}{cx cy:Value}{w:World}(h:aW X op t (qu ox||qu oy) x y=some v)(hx:VR ι x cx)(hy:VR ι y cy):
  ∃cv,(do eqGuard op t ox oy cx cy;binOp op t cx cy:Sem Value).run P w= .ok cv w∧VR ι v cv:=by
 have plain:∀ (k j:IntKind) (a b:Int),(eqGuard op t ox oy (.int k a) (.int j b)).run P w= .ok () w:=fun k j a b=>by
  unfold eqGuard
  cases op<;>simp
 have nes:∀ {k j:IntKind} {n m x y:Int},yG op k j n m=some v→k=j→n=m→x≠y→∃cv,(do eqGuard op t ox oy (.int k x) (.int k y);binOp op t (.int k x) (.int k y):Sem Value).run P w= .ok cv w∧VR ι v cv:=fun{k j n m x y} h hk hn hne=>by
  unfold yG at h
  split at h
  ·split at h
   ·cases h
    refine⟨.bool false,?_,by simp[VR]⟩
    simp only[Sem.run_bind,plain,Result.andThen_ok]
    simp[binOp,Op.intCmp,hne]
   ·cases h
    refine⟨.bool true,?_,by simp[VR]⟩
    simp only[Sem.run_bind,plain,Result.andThen_ok]
    simp[binOp,Op.intCmp,hne]
   ·cases h
  ·cases h
 unfold aW at h
 split at h
 ·split at h
  ·rename_i hc
   simp only[VR] at hx hy;subst hx;subst hy
   exact Bu hX hc h
  ·exact vG hX h hx hy
 ·rename_i k b m r j d
  simp only[VR] at hx hy
  obtain⟨n,rfl,hn,hr⟩:=hx
  subst hy
  unfold GN at h
  split at h
  ·split at h
   ·rename_i hd
    cases h
    simp only[Bool.and_eq_true,decide_eq_true_eq] at hd
    obtain⟨rfl,h1,h2⟩:=hd
    have h1:=Nat.blt_eq.mp h1
    have h2:=Nat.beq_eq.mp h2
    refine⟨.int k (n % d:Nat),?_,by
     simp only[VR]
     rw[←hr]
     congr 2
     exact(Nat.mod_mod_of_dvd n (Nat.dvd_of_mod_eq_zero h2)).symm⟩
    simp only[Sem.run_bind,plain,Result.andThen_ok]
    have hd0:(Int.ofNat d)≠0:=by simp;omega
    simp only[binOp,ne_eq,not_true_eq_false,if_false,Op.intDiv,hd0,Sem.run_pure]
    rw[show(Int.ofNat d)=(d:Int) from rfl,Int.ofNat_tmod]
   ·cases h
  ·cases h
 ·rename_i k n j m
  simp only[VR] at hx hy
  obtain⟨x,rfl,hne⟩:=hx
  subst hy
  have hk:k=j∧n=m:=by
   unfold yG at h
   split at h
   ·rename_i hd;simpa using hd
   ·cases h
  obtain⟨rfl,rfl⟩:=hk
  exact nes h rfl rfl hne
 ·rename_i j m k n
  simp only[VR] at hx hy
  obtain⟨y,rfl,hne⟩:=hy
  subst hx
  have hk:k=j∧n=m:=by
   unfold yG at h
   split at h
   ·rename_i hd;simpa using hd
   ·cases h
  obtain⟨rfl,rfl⟩:=hk
  exact nes h rfl rfl (Ne.symm hne)
 ·exact vG hX h hx hy
omit hX in
theorem Fk {op:UnOp}{x v:AV}{cx:Value}{w:World}(h:F2 op x=some v)(hx:VR ι x cx):∃cv,(Op.unary op cx).run P w= .ok cv w∧VR ι v cv:=by
 unfold F2 at h
 split at h
 ·rename_i c;simp only[VR] at hx;subst hx;cases h;exact⟨.bool (!c),by simp[Op.unary],by simp[VR]⟩
 ·rename_i k n;simp only[VR] at hx;subst hx;cases h;exact⟨.int k (k.wrap (0- n)),by simp only[Op.unary,Op.intArith,Sem.run_pure],by simp only[VR,tQ]⟩
 ·rename_i k n;simp only[VR] at hx;subst hx
  split at h
  ·rename_i r hr;cases h;exact⟨.int k r,by simp[Op.unary,ua hr],by simp[VR]⟩
  ·cases h
 ·cases h
end
end Go.Am
end
section
namespace Go.Am
inductive DRs (ι:Inj):List DE→List Deferred→Prop
 |nil:DRs ι [] []
 |cons {d:qT} {c:Deferred} {l:List DE} {m:List Deferred} {cap:Array Value}:c.target= .fn (.func d.fn) cap→VRs ι d.args (c.args++cap).toList→DRs ι l m→DRs ι (.fn d::l) (c::m)
 |mark {b cb:Nat} {c:Deferred} {l:List DE} {m:List Deferred} {x:WD}:c.target= .collected cb→ι b=some (cb,x)→DRs ι l m→DRs ι (.mark b::l) (c::m)
theorem DRs.mono {ι κ:Inj}(h:ι.le κ){l:List DE}{m:List Deferred}(hd:DRs ι l m):DRs κ l m:=by
 induction hd with
 |nil=>exact .nil
 |cons h1 h2 _ ih=>exact .cons h1 (h2.mono h) ih
 |mark h1 h2 _ ih=>exact .mark h1 (h _ _ h2) ih
inductive PRs (ι:Inj):List (Nat×AV)→List (Nat×Value)→Prop
 |nil:PRs ι [] []
 |cons {i:Nat} {v:AV} {c:Value} {l:List (Nat×AV)} {m:List (Nat×Value)}:VR ι v c→PRs ι l m→PRs ι ((i,v)::l) ((i,c)::m)
structure FR (ι:Inj)(fr:Fr)(a:Act):Prop where
 t:∀k v,fr.t.get k=some v→∃cv,a.tmps[k]? =some cv∧VR ι v cv
 d:DRs ι fr.d a.defers
theorem FR.mono {ι κ:Inj}(h:ι.le κ){fr:Fr}{a:Act}(hf:FR ι fr a):FR κ fr a:=
 ⟨fun k v hv=>let⟨cv,h1,h2⟩:=hf.t k v hv;⟨cv,h1,h2.mono h⟩,hf.d.mono h⟩
theorem FR.opd {ι:Inj}{fr:Fr}{a:Act}(hf:∀k v,fr.t.get k=some v→∃cv,a.tmps[k]? =some cv∧VR ι v cv)(x:Operand):VR ι (fr.opd x) (a.eval x):=by
 cases x with
 |tmp t=>
  simp only[Fr.opd]
  split
  ·rename_i v hv
   obtain⟨cv,h1,h2⟩:=hf t v hv
   simpa[Act.eval,h1] using h2
  ·simp[VR]
 |const v=>exact jJ ι v
 |global g=>simp[Fr.opd,VR,Act.eval]
 |func f=>simp only[Fr.opd,Act.eval,VR];exact⟨#[], #[],rfl,by simp[VRs],by simp[VRs]⟩
def iX (P:Program)(ι:Inj)(s:St)(w:World)(r:OR)(res:Result Next):Prop:=
 match r with
 | .old v=>∃cv,res= .ok (.value cv) w∧VR ι v cv
 | .pure v=>∃cv,res= .ok (.value cv) w∧VR ι v cv
 | .val v s'=>∃κ w' cv,(res= .ok (.value cv) w'∨(res= .ok .skip w'∧cv=undef))∧VR κ v cv∧HR P κ s' w'∧Ext ι s w κ s' w'
 | .call f args=>∃cargs,res=(callFunc f cargs).run P w∧VRs ι args cargs.toList
 | .round b args=>∃cb d cargs,ι b=some (cb,d)∧res=(Instr.yield cb cargs).run P w∧VRs ι args cargs.toList
 | .dfr d=>∃cd cap,res= .ok (.defer cd) w∧cd.target= .fn (.func d.fn) cap∧VRs ι d.args (cd.args++cap).toList
 | .pan v=>∃cv,res= .halt (.panic cv) w∧VR ι v cv
section
variable {P:Program}{X:Ctx}(hX:dU P X){ι:Inj}{s:St}{w:World}
theorem bt {x:Sem Value}{cv:Value}{w':World}(h:x.run P w= .ok cv w'):(do pure (.value (←x)):Sem Next).run P w= .ok (.value cv) w':=by
 simp[h]
theorem Bi {x:Sem Unit}{w':World}(h:x.run P w= .ok () w'):(do x;pure .skip:Sem Next).run P w= .ok .skip w':=by
 simp[h]
theorem pH {cs:List AV}{ccs:Array Value}{elem:TypeId}{r:OR}(h:dO cs s=some r)(hH:HR P ι s w)(hv:VRs ι cs ccs.toList):
  ∃κ w' cv,(newRow elem ccs).run P w= .ok ⟨w.heap.size,0,none⟩ w'∧cv= .pointer (some ⟨w.heap.size,0,none⟩)∧∃v s',r= .val v s'∧VR κ v cv∧HR P κ s' w'∧Ext ι s w κ s' w':=by
 unfold dO at h
 split at h
 ·cases h
  obtain⟨h1,h2,h3⟩:=hH.dO (cvs:=ccs) (cs:=cs) (w':={w with heap:=w.heap.push (.cells ccs elem)}) (elem:=elem) (fz:=(0,0))
   (by rw[hv.length,List.take_length];exact hv) (.inl rfl) rfl ⟨rfl,rfl⟩
  refine⟨_,_,_,by simp[newRow],rfl,_,_,rfl,?_,h1,h2⟩
  rw[h3]
  simp only[VR]
  exact⟨_,_,Inj.db _ _ _,rfl⟩
 ·cases h
include hX in
theorem xB {t:TypeId}{r:OR}(h:ja X t s=some r)(hH:HR P ι s w):
  iX P ι s w r ((do pure (.value (←Instr.alloc t true (.tuple #[]))):Sem Next).run P w):=by
 unfold ja at h
 split at h
 ·rename_i z hz
  obtain⟨cz,h1,rfl⟩:=fA hX hz w
  have hv:=(jJ ι cz).cells (by
   intro e
   rw[e] at h
   simp[dO,AV.cells,aX,AV.one] at h)
  obtain⟨κ,w',cv,h2,rfl,v,s',rfl,h3,h4,h5⟩:=pH (P:=P) (elem:=t) h hH hv
  exact⟨κ,w',_, .inl (by simp[Instr.alloc,h1,newVar,h2]),h3,h4,h5⟩
 ·cases h
theorem AR {t:TypeId}{x:AV}{cx:Value}{r:OR}(h:dY x s=some r)(hH:HR P ι s w)(hx:VR ι x cx):
  iX P ι s w r ((do pure (.value (←Instr.box t cx)):Sem Next).run P w):=by
 unfold dY at h
 split at h
 ·cases h
 ·rename_i hne
  have hv:=hx.cells (fun e=>hne (by rw[e]))
  obtain⟨κ,w',cv,h2,rfl,v,s',rfl,h3,h4,h5⟩:=pH (P:=P) (elem:=t) h hH hv
  exact⟨κ,w',_, .inl (by simp[Instr.box,newVar,h2]),h3,h4,h5⟩
theorem yF:∀ (vs:List AV) (cvs:List Value) (off i:Nat) (cs:List AV) (ccs:Array Value),VRs ι vs cvs→VRs ι cs ccs.toList→
  VRs ι (dB cs (off+i) vs) ((cvs.zipIdx i).foldl (fun a (c,j)=>a.setIfInBounds (off+j) c) ccs).toList
 |[],[],_,_,_,_,_,h=>by simpa[dB] using h
 |[],_::_,_,_,_,_,h,_=>by simp[VRs] at h
 | _::_,[],_,_,_,_,h,_=>by simp[VRs] at h
 |v::vs,c::cvs,off,i,cs,ccs,h,hc=>by
  simp only[VRs] at h
  simp only[dB,List.zipIdx_cons,List.foldl_cons]
  have:=yF vs cvs off (i+1) (cs.set (off+i) v) (ccs.setIfInBounds (off+i) c) h.2 (by
   rw[Array.toList_setIfInBounds];exact hc.set _ h.1)
  exact this
theorem rz:∀ (vs:List AV) (off:Nat) (cs:List AV),(dB cs off vs).length=cs.length
 |[],_,_=>rfl
 |v::vs,off,cs=>by simp[dB,rz vs]
theorem oE {place:Nat→Option (Nat×Nat)}:∀ (ps:List (Nat×AV)) (cs cs':List AV),dc place ps cs=some cs'→cs'.length=cs.length
 |[],cs,cs',h=>by simp[dc] at h;subst h;rfl
 |(i,v)::rest,cs,cs',h=>by
  simp only[dc] at h
  split at h
  ·split at h
   ·cases h
   ·split at h
    ·rw[oE rest _ _ h,rz]
    ·cases h
  ·cases h
theorem pU {place cplace:Nat→Option (Nat×Nat)}(hp:∀i x,place i=some x→cplace i=some x):∀ (ps:List (Nat×AV)) (cps:List (Nat×Value)) (cs cs':List AV) (ccs:Array Value),
  dc place ps cs=some cs'→PRs ι ps cps→VRs ι cs ccs.toList→∃ccs',Instr.fill cplace ccs cps=some ccs'∧VRs ι cs' ccs'.toList
 |[],_,cs,cs',ccs,h,hf,hc=>by
  cases hf;simp[dc] at h;subst h;exact⟨ccs,by simp[Instr.fill],hc⟩
 |(i,v)::rest,_,cs,cs',ccs,h,hf,hc=>by
  cases hf with
  | @cons _ _ cv _ cps hv hf=>
   simp only[dc] at h
   split at h
   ·rename_i off size hpl
    split at h
    ·cases h
    ·rename_i hne
     split at h
     ·rename_i hcond
      rw[Bool.and_eq_true] at hcond
      have h1:=Nat.beq_eq.mp hcond.1
      have h2:=Nat.ble_eq.mp hcond.2
      have hvc:=hv.cells (fun e=>hne (by rw[e]))
      have hl1:=hvc.length
      have hl2:=hc.length
      have e1:cv.cells.size=size:=by simp at hl1;omega
      have e2:off+cv.cells.size≤ccs.size:=by simp at hl2;omega
      have hs:=yF (v.cells) cv.cells.toList off 0 cs ccs hvc hc
      obtain⟨ccs',h3,h4⟩:=pU hp rest cps _ cs' _ h hf hs
      refine⟨ccs',?_,h4⟩
      simp only[Instr.fill,hp _ _ hpl]
      rw[if_neg (by simp[e1];omega)]
      rw[←h3]
      congr 1
      rw[←Array.foldl_toList]
      simp
     ·cases h
   ·cases h
theorem q6 {fr:Fr}{a:Act}(ps:Array (Nat×Operand))(hf:∀p∈ps.toList,VR ι (fr.opd p.2) (a.eval p.2)):
  PRs ι (parts fr ps) (ps.map fun(i,x)=>(i,a.eval x)).toList:=by
 unfold parts
 rw[Array.toList_map]
 revert hf
 induction ps.toList with
 |nil=>exact fun _=> .nil
 |cons p l ih=>exact fun hf=> .cons (hf p (by simp)) (ih fun q hq=>hf q (by simp[hq]))
include hX in
theorem uj:∀ (fs:List Field) (pl:List (Nat×Nat)),cS X fs=some pl→∀w,(fs.mapM fun f=>do pure (f.offset,←sizeOf f.type):Sem (List (Nat×Nat))).run P w= .ok pl w
 |[],pl,h,w=>by simp[cS] at h;subst h;simp
 |f::fs,pl,h,w=>by
  simp only[cS] at h
  split at h
  ·rename_i n hn
   split at h
   ·rename_i l hl;cases h
    have ih:=uj fs l hl w
    rw[List.mapM_cons]
    simp only[Sem.run_bind,cO hX hn,Result.andThen_ok,Sem.run_pure]
    rw[ih];rfl
   ·cases h
  ·cases h
theorem wI {α β:Type}(xs:Array α)(f:α→Sem β)(l:List β)(h:(xs.toList.mapM f).run P w= .ok l w):(xs.mapM f).run P w= .ok l.toArray w:=by
 rw[Array.mapM_eq_mapM_toList]
 simp[h]
include hX in
theorem xK {t:TypeId}{ps:Array (Nat×Operand)}{fr:Fr}{a:Act}{r:OR}(h:bz X t (parts fr ps)=some r)(hf:∀p∈ps.toList,VR ι (fr.opd p.2) (a.eval p.2)):
  iX P ι s w r ((do pure (.value (←Instr.build t (ps.map fun(i,x)=>(i,a.eval x)))):Sem Next).run P w):=by
 unfold bz at h
 have hps:=q6 (ι:=ι) ps hf
 have ok:∀ {z:AV} {cz:Value} {cs':List AV} {place cplace:Nat→Option (Nat×Nat)},z=ofV cz→fB (dc place (parts fr ps) z.cells)=some r→(∀i x,place i=some x→cplace i=some x)→
   ∃ccs',Instr.fill cplace cz.cells (ps.map fun(i,x)=>(i,a.eval x)).toList=some ccs'∧∃v,r= .pure v∧VR ι v (.agg ccs'):=fun{z cz cs' place cplace} hz h hp=>by
  subst hz
  unfold fB at h
  split at h
  ·rename_i cs hcs
   cases h
   have hzc:VRs ι (ofV cz).cells cz.cells.toList:=by
    by_cases e:ofV cz= .top
    ·
     rw[e]
     cases cz<;>first
      |(simp[ofV,pe] at e;done)
      |exact VRs.one (by simp[VR])
      |skip
     all_goals exact VRs.one (by simp[VR])
    ·exact(jJ ι cz).cells e
   obtain⟨ccs',h1,h2⟩:=pU hp _ _ _ _ _ hcs hps hzc
   exact⟨ccs',h1,_,rfl,by simp only[VR];exact⟨_,rfl,h2⟩⟩
  ·cases h
 split at h
 ·rename_i z fs hz hu
  obtain⟨cz,h1,hzz⟩:=fA hX hz w
  unfold cL at h
  split at h
  ·rename_i pl hpl
   have hpl':=wI (P:=P) (w:=w) fs (fun f=>do pure (f.offset,←sizeOf f.type)) pl (uj hX _ _ hpl w)
   obtain⟨ccs',h2,v,rfl,h3⟩:=ok (cs':=[]) (cplace:=fun i=>pl.toArray[i]?) hzz h (fun i x hx=>by simpa using hx)
   refine⟨.agg ccs',?_,h3⟩
   simp only[Instr.build,Sem.run_bind,h1,Result.andThen_ok,aL hX hu,hpl',h2,Sem.run_pure]
  ·cases h
 ·rename_i z n elem hz hu
  obtain⟨cz,h1,hzz⟩:=fA hX hz w
  unfold wG at h
  split at h
  ·rename_i k hk
   obtain⟨ccs',h2,v,rfl,h3⟩:=ok (cs':=[]) (cplace:=fun i=>some (i*k,k)) hzz h (fun i x hx=>hx)
   refine⟨.agg ccs',?_,h3⟩
   simp only[Instr.build,Sem.run_bind,h1,Result.andThen_ok,aL hX hu,cO hX hk,h2,Sem.run_pure]
  ·cases h
 ·cases h
theorem zN (f:Nat→Value):(Array.range 0).map f= #[]:=by
 have:Array.range 0= #[]:=rfl
 rw[this];simp
theorem B7 {z:List AV}:∀ (n i:Nat),i<n*z.length→(lR z n)[i]? =z[i % z.length]?
 |0,i,h=>by simp at h
 |n+1,i,h=>by
  simp only[lR]
  by_cases hi:i<z.length
  ·rw[List.getElem?_append_left hi,Nat.mod_eq_of_lt hi]
  ·rw[List.getElem?_append_right (by omega),B7 n (i- z.length) (by rw[Nat.add_mul,Nat.one_mul] at h;omega)]
   congr 1
   rw[←Nat.mod_eq_sub_mod (by omega)]
theorem fi (z:List AV):∀n,(lR z n).length=n*z.length
 |0=>by simp[lR]
 |n+1=>by simp[lR,fi z n,Nat.add_mul];omega
theorem pB {z:List AV}{cz:Array Value}(hz:VRs ι z cz.toList)(n:Nat):VRs ι (lR z n) ((Array.range (n*cz.size)).map (fun i=>cz[i % cz.size]!)).toList:=by
 have hl:z.length=cz.size:=by simpa using hz.length
 refine VRs.ext (by simp[fi,hl]) fun i a v ha hv=>?_
 have hi:i<n*z.length:=by
  rcases Nat.lt_or_ge i (n*z.length) with h|h
  ·exact h
  ·rw[List.getElem?_eq_none (by rw[fi];exact h)] at ha;cases ha
 rw[B7 n i hi] at ha
 obtain⟨cv,h1,h2⟩:=hz.get ha
 rw[hl] at hi h1
 have h0:0<cz.size:=by
  rcases Nat.eq_zero_or_pos cz.size with h|h
  ·rw[h] at hi;simp at hi
  ·exact h
 have hm:i % cz.size<cz.size:=Nat.mod_lt _ h0
 simp only[Array.toList_map,List.getElem?_map] at hv
 rw[Array.toList_range,List.getElem?_range hi] at hv
 simp only[Option.map_some,Option.some.injEq] at hv
 subst hv
 have:cz[i % cz.size]! =cv:=by
  rw[getElem!_pos cz _ hm]
  have h1:cz[i % cz.size]? =some cv:=by simpa using h1
  rw[Array.getElem?_eq_getElem hm] at h1
  exact Option.some.inj h1
 rw[this];exact h2
include hX in
theorem vj {t:TypeId}{len:Nat}{ps:Array (Nat×Operand)}{fr:Fr}{a:Act}{r:OR}(h:bB X t len (parts fr ps) s=some r)(hH:HR P ι s w)(hf:∀p∈ps.toList,VR ι (fr.opd p.2) (a.eval p.2)):
  iX P ι s w r ((do pure (.value (←Instr.buildSlice t len (ps.map fun(i,x)=>(i,a.eval x)))):Sem Next).run P w):=by
 unfold bB at h
 have hps:=q6 (ι:=ι) ps hf
 split at h
 ·rename_i elem hu
  split at h
  ·rename_i n z hn hz
   split at h
   ·rename_i hc
    simp only[Bool.and_eq_true] at hc
    have c1:=Nat.ble_eq.mp hc.1.1
    have c2:=Nat.beq_eq.mp hc.1.2
    have c3:=Nat.blt_eq.mp hc.2
    obtain⟨cz,h1,rfl⟩:=fA hX hz w
    have hzc:VRs ι (ofV cz).cells cz.cells.toList:=by
     by_cases e:ofV cz= .top
     ·rw[e]
      cases cz<;>first
       |(simp[ofV,pe] at e;done)
       |exact VRs.one (by simp[VR])
       |skip
      all_goals exact VRs.one (by simp[VR])
     ·exact(jJ ι cz).cells e
    have hsz:cz.cells.size=n:=by have:=hzc.length;simp at this;omega
    unfold eG at h
    split at h
    ·rename_i cs hcs
     unfold fE at h
     split at h
     ·cases h
      have hrep:=pB hzc len
      obtain⟨ccs',h2,h3⟩:=pU (cplace:=fun i=>some (i*n,n)) (fun i x hx=>hx) _ _ _ _ _ hcs hps hrep
      have hcl:=h3.length
      have hlen:cs.length=ccs'.size:=by simpa using hcl
      have hfl:cs.length=len*n:=by rw[oE _ _ _ hcs,fi,c2]
      obtain⟨g1,g2,g3⟩:=hH.dO (cvs:=ccs') (cs:=cs) (w':={w with heap:=w.heap.push (.cells ccs' elem)}) (elem:=elem) (fz:=(0,0))
       (by rw[hlen,List.take_of_length_le (by simp)];exact h3) (.inl rfl) rfl ⟨rfl,rfl⟩
      refine⟨_,_, .slice (some ⟨w.heap.size,0,none⟩) len len, .inl ?_,?_,g1,g2⟩
      ·refine bt ?_
       have e1:¬(2^24<len*n):=by omega
       have e2:Instr.fill (fun i=>some (i*n,n)) ((Array.range (len*n)).map (fun i=>(if len*n=0 then(#[]:Array Value) else cz.cells)[i % (if len*n=0 then(#[]:Array Value) else cz.cells).size]!)) (ps.map fun(i,x)=>(i,a.eval x)).toList=some ccs':=by
        by_cases h0:len*n=0
        ·rw[←h2,hsz];simp only[h0,zN]
        ·simp only[h0,if_false];rw[←h2,hsz]
       simp only[Instr.buildSlice,Sem.run_bind,aL hX hu,Result.andThen_ok,cO hX hn,gt_iff_lt,e1,if_false,Sem.run_ite,Sem.run_pure,h1]
       by_cases h0:len*n=0
       ·simp only[h0,if_true] at e2 ⊢
        simp only[Result.andThen_ok,e2,Sem.run_bind,newRow,run_newObj,Result.andThen_ok,Sem.run_pure]
       ·simp only[h0,if_false] at e2 ⊢
        simp only[Result.andThen_ok,e2,Sem.run_bind,newRow,run_newObj,Result.andThen_ok,Sem.run_pure]
      ·rw[g3]
       simp only[VR]
       exact⟨_,_,_,_,Inj.db _ _ _,rfl,fun _=>rfl,Nat.le_refl _,Nat.le_refl _,fun _=>rfl,by simp[←hlen,←hfl]⟩
     ·cases h
    ·cases h
   ·cases h
  ·cases h
 ·cases h
theorem nZ {o:Option AV}{r:OR}{x:Sem Value}(h:tf o=some r)(hv:∀v,o=some v→∃cv,x.run P w= .ok cv w∧VR ι v cv):iX P ι s w r ((do pure (.value (←x)):Sem Next).run P w):=by
 unfold tf at h
 split at h
 ·rename_i v
  cases h
  obtain⟨cv,h1,h2⟩:=hv v rfl
  exact⟨cv,bt h1,h2⟩
 ·cases h
theorem gu {o:Option AV}{r:OR}{x:Sem Value}(h:jA o=some r)(hv:∀v,o=some v→∃cv,x.run P w= .ok cv w∧VR ι v cv):iX P ι s w r ((do pure (.value (←x)):Sem Next).run P w):=by
 unfold jA at h
 split at h
 ·rename_i v
  cases h
  obtain⟨cv,h1,h2⟩:=hv v rfl
  exact⟨cv,bt h1,h2⟩
 ·cases h
theorem VR.bool {b:Bool}{cv:Value}(h:VR ι (.bool b) cv):cv= .bool b:=by simpa[VR] using h
theorem VR.int {k:IntKind}{n:Int}{cv:Value}(h:VR ι (.int k n) cv):cv= .int k n:=by simpa[VR] using h
theorem VR.str {x:Str}{cv:Value}(h:VR ι (.str x) cv):∃bs,cv= .string bs∧x=Str.of bs:=by simpa[VR] using h
theorem VR.ptr {b o:Nat}{cv:Value}(h:VR ι (.ptr (some (b,o))) cv):∃c d,ι b=some (c,d)∧cv= .pointer (some ⟨c,d.1+o,none⟩):=by simpa[VR] using h
theorem VR.agg {l:List AV}{cv:Value}(h:VR ι (.agg l) cv):∃x,cv= .agg x∧VRs ι l x.toList:=by simpa[VR] using h
theorem VR.tup {l:List AV}{cv:Value}(h:VR ι (.tup l) cv):∃x,cv= .tuple x∧VRs ι l x.toList:=by simpa[VR] using h
theorem Ag {c x y:AV}{cc cx cy:Value}{r:OR}(h:qA c x y=some r)(hc:VR ι c cc)(hx:VR ι x cx)(hy:VR ι y cy):
  iX P ι s w r ((do pure (.value (if ←asBool cc then cx else cy)):Sem Next).run P w):=by
 unfold qA at h
 split at h
 ·cases h;rw[hc.bool];exact⟨cx,by simp[asBool],hx⟩
 ·cases h;rw[hc.bool];exact⟨cy,by simp[asBool],hy⟩
 ·cases h
theorem A5 {x:AV}{cx:Value}{r:OR}{o:Oper}{ρ:Operand→Value}{y:Operand}(h:uq x=some r)(hx:VR ι x cx)(hy:ρ y=cx)(ho:o.op= .nilCheck y):iX P ι s w r ((execOp ρ o).run P w):=by
 unfold uq at h
 split at h
 ·rename_i p
  cases h;obtain⟨b,off⟩:=p
  obtain⟨c,d,h1,rfl⟩:=hx.ptr
  exact⟨_,by simp[execOp,ho,hy],hx⟩
 ·rename_i f l1 l2
  cases h
  simp only[VR] at hx
  obtain⟨p,q,rfl,h1,h2⟩:=hx
  exact⟨.func (.func f) p q,by simp[execOp,ho,hy],by simp only[VR];exact⟨_,_,rfl,h1,h2⟩⟩
 ·rename_i t v
  cases h
  simp only[VR] at hx
  obtain⟨p,rfl,h1⟩:=hx
  exact⟨.iface t p,by simp[execOp,ho,hy],by simp only[VR];exact⟨_,rfl,h1⟩⟩
 ·rename_i b
  cases h
  simp only[VR] at hx
  obtain⟨c,d,h1,rfl⟩:=hx
  exact⟨.func (.yield c) #[] #[],by simp[execOp,ho,hy],by simp only[VR];exact⟨_,_,h1,rfl⟩⟩
 ·cases h
  have hx':=hx
  simp only[VR] at hx
  subst hx
  exact⟨_,by simp[execOp,ho,hy],hx'⟩
 ·cases h
include hX in
theorem uz {t:TypeId}{x:AV}{cx:Value}{r:OR}(h:iK X t x=some r)(hx:VR ι x cx):iX P ι s w r ((do pure (.value (←Instr.makeInterface t cx)):Sem Next).run P w):=by
 unfold iK at h
 split at h
 ·cases h
 ·rename_i d hne hu
  cases h
  refine⟨.iface t cx,bt ?_,by simp only[VR];exact⟨_,rfl,hx⟩⟩
  simp only[Instr.makeInterface,Sem.run_bind,aL hX hu,Result.andThen_ok]
  cases d<;>first|rfl|exact absurd rfl (hne _)
 ·cases h
theorem xi {t:TypeId}{r:OR}(h:nY s=some r)(hH:HR P ι s w):iX P ι s w r ((do pure (.value (←Instr.makeMap t none)):Sem Next).run P w):=by
 unfold nY at h
 cases h
 obtain⟨h1,h2⟩:=hH.new (z:=0) (w':={w with heap:=w.heap.push (.map #[] 0)}) (ab:= .map []) rfl ⟨rfl,rfl⟩ (fun κ _=>by
  refine⟨rfl, .nil, #[],0,dT,⟨[], .nil, .nil⟩,by simp,by simp⟩)
 refine⟨_,_, .map (some w.heap.size), .inl (bt (by simp[Instr.makeMap])),?_,h1,h2⟩
 simp only[VR,St.new]
 exact⟨_,_,Inj.db _ _ _,rfl⟩
include hX in
theorem ur {t:TypeId}{l c:AV}{cl cc:Value}{r:OR}(h:eF X t l c s=some r)(hH:HR P ι s w)(hl:VR ι l cl)(hc:VR ι c cc):
  iX P ι s w r ((do pure (.value (←Instr.makeSlice t cl cc)):Sem Next).run P w):=by
 unfold eF at h
 split at h
 ·rename_i elem kl n kc m hu
  have el:=hl.int;have ec:=hc.int
  subst el;subst ec
  split at h
  ·rename_i k z hk hz
   unfold nf at h
   split at h
   ·rename_i hcond
    simp only[Bool.and_eq_true] at hcond
    obtain⟨⟨c1,c2⟩,c4,c5⟩:=hcond
    have c1:=Nat.ble_eq.mp c1
    have c2:=Nat.ble_eq.mp c2
    have c5:=Nat.beq_eq.mp c5
    cases h
    obtain⟨cz,h1,rfl⟩:=fA hX hz w
    have hzc:=(jJ ι cz).cells (fI c4)
    obtain⟨i,hi,hik,hbytes,hk1⟩:=lI hk
    have hk:=nF hk
    have hsz:cz.cells.size=k:=by have:=hzc.length;simp at this;omega
    have hrep:=pB hzc m
    have hrl:(lR (ofV cz).cells m).length=m*k:=by rw[fi,c5]
    have hb:(i.bytes:Int)*(m:Int)≤2^48:=by
     have h1:i.bytes*m≤1048576*100000:=Nat.mul_le_mul hbytes c2
     have h2:((i.bytes*m:Nat):Int)≤((1048576*100000:Nat):Int):=by exact_mod_cast h1
     rw[Int.natCast_mul] at h2
     omega
    have hwn:IntKind.i64.wrap (Int.ofNat n)=n:=by
     have:fits .i64 (.ofNat n)=true:=by simp[fits,Nat.blt_eq];omega
     exact iS this
    have hwm:IntKind.i64.wrap (Int.ofNat m)=m:=by
     have:fits .i64 (.ofNat m)=true:=by simp[fits,Nat.blt_eq];omega
     exact iS this
    ·obtain⟨g1,g2,g3⟩:=hH.dO (cvs:=(Array.range (m*cz.cells.size)).map (fun i=>cz.cells[i % cz.cells.size]!)) (cs:=lR (ofV cz).cells m)
      (w':={w with heap:=w.heap.push (.cells ((Array.range (m*cz.cells.size)).map (fun i=>cz.cells[i % cz.cells.size]!)) elem)}) (elem:=elem) (fz:=(0,0))
      (by rw[List.take_of_length_le (by rw[hrep.length];exact Nat.le_refl _)];exact hrep) (.inl rfl) rfl ⟨rfl,rfl⟩
     rw[hrl] at g1 g2 g3
     refine⟨_,_, .slice (some ⟨w.heap.size,0,none⟩) n m, .inl (bt ?_),?_,g1,g2⟩
     ·have e1:(Int.ofNat m<0)=False:=by simp
      have e2:¬((i.bytes:Int)*(m:Int)>2^48):=by omega
      have e3:¬((n:Int)>(m:Int)):=by omega
      simp only[Instr.makeSlice,Sem.run_bind,aL hX hu,Result.andThen_ok,asInt,asIntOf,Sem.run_pure,run_typeInfo hX hi,hwn,hwm]
      have e4:(decide ((m:Int)<0)||decide ((i.bytes:Int)*(m:Int)>2^48)||decide ((n:Int)<0)||decide ((n:Int)>(m:Int)))=false:=by
       simp only[Bool.or_eq_false_iff,decide_eq_false_iff_not]
       exact⟨⟨⟨by omega,e2⟩,by omega⟩,e3⟩
      simp only[e4,Bool.false_eq_true,if_false,Sem.run_bind,Sem.run_pure,Result.andThen_ok,run_askRoom,cO hX hk,Int.toNat_natCast,Sem.run_ite,h1,←hsz]
      by_cases h0:m*cz.cells.size=0
      ·simp only[h0,if_true,Result.andThen_ok,newRow,Sem.run_bind,run_newObj,Sem.run_pure,zN]
      ·simp only[h0,if_false,Result.andThen_ok,newRow,Sem.run_bind,run_newObj,Sem.run_pure]
     ·rw[g3]
      simp only[VR]
      exact⟨_,_,_,_,Inj.db _ _ _,rfl,fun _=>rfl,c1,Nat.le_refl _,fun _=>rfl,fun j _ hj=>by simpa[hsz] using hj⟩
   ·cases h
  ·cases h
 ·cases h
end
end Go.Am
end
