/-
  A part of the texts.
-/
import Derived.Sort.KeysCollected
import Derived.Sort.Walk0
import Derived.StringKeys
import Derived.Test.YtofohkdkpbigiaaQaz
section
namespace Go.Proofs.Ytofohkdkpbigiaa
open Go.Am
set_option maxRecDepth 10000
set_option maxHeartbeats 1000000
set_option linter.unusedSimpArgs false
theorem zM {a b:Nat}(ha:a<4294967296)(hb:b<4294967296):Nat.xor a b<4294967296:=Nat.xor_lt_two_pow (n:=32) ha hb
theorem Br {a b:Nat}(ha:a<4294967296)(hb:b<4294967296):bitsOf .xor .u32 (a:Int) (b:Int)=some ((Nat.xor a b:Nat):Int):=by
 have h1:((a:Int) % (2^IntKind.u32.bits:Int)).toNat=a:=by show((a:Int) % 4294967296).toNat=a;omega
 have h2:((b:Int) % (2^IntKind.u32.bits:Int)).toNat=b:=by show((b:Int) % 4294967296).toNat=b;omega
 have h3:=zM ha hb
 simp only[bitsOf,h1,h2]
 rw[zl (by omega) (by omega)]
theorem Gp {t:TypeId}{c:Bool}{a b:Nat}(ha:a<4294967296)(hb:b<4294967296):aW X .xor t c (.int .u32 (a:Int)) (.int .u32 (b:Int))=some (.int .u32 ((Nat.xor a b:Nat):Int)):=by
 simp only[aW,gh,kM,Br ha hb,if_true]
theorem Hm {t:TypeId}{c:Bool}{a:Nat}(ha:a<4294967296):aW X .xor t c (.int .u32 (a:Int)) (.int .u32 2197175160)=some (.int .u32 ((Nat.xor a 2197175160:Nat):Int)):=
 Gp ha (by decide)
theorem ME {a:Nat}(ha:a<4294967296):F2 .xor (.int .u32 (a:Int))=some (.int .u32 ((Nat.xor 4294967295 a:Nat):Int)):=by
 have:=Br (a:=4294967295) (b:=a) (by decide) ha
 show(match bitsOf .xor .u32 ((4294967295:Nat):Int) (a:Int) with|some r=>some (AV.int .u32 r)|none=>none)=_
 rw[this]
theorem IZ {t:TypeId}{c:Bool}{a:Nat}(ha:a<4294967296):aW X .and t c (.int .u32 (a:Int)) (.int .u32 1)=some (.int .u32 ((a % 2:Nat):Int)):=by
 have h1:((a:Int) % (2^IntKind.u32.bits:Int)).toNat=a:=by show((a:Int) % 4294967296).toNat=a;omega
 have h2:((1:Int) % (2^IntKind.u32.bits:Int)).toNat=1:=by decide
 simp only[aW,gh,kM,bitsOf,h1,h2]
 rw[show Nat.land a 1=a % 2 from Nat.and_one_is_mod a,zl (by omega) (by omega)]
 rfl
theorem Jh {a b:TypeId}{d:TypeDesc}{k:IntKind}{s:St}{n:Nat}(hu:X.und a=some d)(hb:X.und b=some (.int .u32))(hn:n<256):bH X a b (.int k (n:Int)) s=some (.pure (.int .u32 (n:Int))):=by
 simp only[bH,hu,hb]
 rw[zl (by omega) (by omega)]
theorem yg (x:Str)(i:Nat):x.at i<256:=Nat.mod_lt _ (by decide)
theorem ru {c:Nat}(h:c<4294967296):nH c<4294967296:=by
 unfold nH
 have:Nat.div c 2<4294967296:=by show c/2<_;omega
 split
 ·exact zM this (by decide)
 ·exact this
theorem ym {c:Nat}(h:c % 2=1):nH c=Nat.xor (c/2) 2197175160:=by
 unfold nH
 rw[show Nat.mod c 2=1 from h];rfl
theorem wD {c:Nat}(h:¬c % 2=1):nH c=c/2:=by
 unfold nH
 have:Nat.mod c 2=0:=by show c % 2=0;omega
 rw[this];rfl
theorem EL {P:Program}{X:Ctx}(hX:dU P X)(hF:∀f fn,X.fns.get f=some fn→sU fn=true){O1:bj}(hO:pc P O1){f:FuncId}(hO1:O1 f=none){g:List AV→St→Option CR}(h:∀args s r,g args s=some r→Ca X O1 (.fn f) args s fun q=>q=r):fK P f g:=by
 intro args s r hr ι w cargs hv hH
 obtain⟨n,q,h1,rfl⟩:=h args s r hr
 have h2:mw X O1 n f args s=some q:=by simpa only[cF,fN,hO1,mw] using h1
 exact .inl (lj hX hF hO n h2 hv hH)
section
variable {O:bj}
theorem Kg:X.fns.get 64=some Try.f64:=by kernel_rfl
theorem LN (ho:O 64=none){s:St}{t:Str}(hl:t.len≤1000000000):Ca X O (.fn 64) [.str t] s fun r=>r= .ret (.int .u32 (mz t:Int)) s:=by
 refine bb ho Kg rfl ?_
 unfold aD aD
 repeat(first|refine uS ?_ |refine aa rfl ?_ |refine ad (by simp(disch:=omega) only[uB,uT,aJ aE];exact rfl) ?_)
 let I:Nat→Sl→St→Prop:=fun i L s'=>s'=s∧i≤t.len∧∃c:Nat,c<4294967296∧tN t (t.len- i) i c=Bg t∧L=[(0, .str t),(3, .int .u32 (c:Int)),(6, .int .i64 (t.len:Int)),(7, .int .i64 (i:Int))]
 refine WL.less (M:=[(0, .str t),(3, .int .u32 ((4294967295:Nat):Int)),(6, .int .i64 (t.len:Int)),(7, .int .i64 ((0:Nat):Int))]) ?_ rfl
 refine aV I (fun i=>t.len- i) ?_ t.len 0 _ s (by simp) ⟨rfl,Nat.zero_le _,4294967295,by decide,rfl,rfl⟩
 rintro i L s' ⟨rfl,hi,c,hc,hcc,rfl⟩
 repeat(first|refine uS ?_ |refine aa rfl ?_ |refine ad (by simp(disch:=omega) only[uB,uT,aJ aE];exact rfl) ?_)
 refine uJ [0,3,6,7,8] ?_
 refine ae rfl rfl (fun hq=>?_) (fun hq=>?_)
 ·simp at hq
  have hx:=zM hc (Nat.lt_trans (yg t i) (by decide:256<4294967296))
  have hstep:tN t (t.len- (i+1)) (i+1) (gZ 8 (Nat.xor c (t.at i)))=Bg t:=by
   rw[←hcc,show t.len- i=(t.len- (i+1))+1 by omega]
   simp only[tN,o9]
  repeat(first|refine uS ?_ |refine aa rfl ?_ |refine ad (by simp(disch:=omega) only[uB,uT,BP aE,Int.toNat_natCast,Jh jB rn (yg t i),Gp hc (Nat.lt_trans (yg t i) (by decide:256<4294967296))];exact rfl) ?_)
  let J:Nat→Sl→St→Prop:=fun j L s2=>s2=s'∧j≤8∧∃d:Nat,d<4294967296∧gZ (8- j) d=gZ 8 (Nat.xor c (t.at i))∧L=[(0, .str t),(3, .int .u32 (d:Int)),(6, .int .i64 (t.len:Int)),(7, .int .i64 (i:Int)),(16, .int .i64 (j:Int))]
  refine WL.less (M:=[(0, .str t),(3, .int .u32 ((Nat.xor c (t.at i):Nat):Int)),(6, .int .i64 (t.len:Int)),(7, .int .i64 (i:Int)),(16, .int .i64 ((0:Nat):Int))]) ?_ rfl
  refine aV J (fun j=>8- j) ?_ 8 0 _ _ (by simp) ⟨rfl,Nat.zero_le _,_,hx,rfl,rfl⟩
  rintro j L s2 ⟨rfl,hj,d,hd,hdd,rfl⟩
  refine uG ?_
  refine uJ [0,3,6,7,16,17] ?_
  refine ae rfl rfl (fun hq2=>?_) (fun hq2=>?_)
  ·simp at hq2
   have hs8:gZ (8- (j+1)) (nH d)=gZ 8 (Nat.xor c (t.at i)):=by
    rw[←hdd,show 8- j=(8- (j+1))+1 by omega]
    simp only[gZ,o9]
   have hsh:∀ {c:Bool},aW X .shr 110 c (.int .u32 (d:Int)) (.int .u64 1)=some (.int .u32 ((d/2:Nat):Int)):=fun{c}=>lM (m:=1) (by decide)
   have hsi:∀ {c:Bool},aW X .shr 110 c (.int .u32 (d:Int)) (.int .i64 1)=some (.int .u32 ((d/2:Nat):Int)):=fun{c}=>lM (m:=1) (by decide)
   have hd2:d/2<4294967296:=by omega
   repeat(first|refine uS ?_ |refine aa rfl ?_ |refine ad (by simp(disch:=omega) only[uB,uT,IZ hd];exact rfl) ?_)
   refine uJ [0,3,6,7,16,20] ?_
   refine ae rfl rfl (fun hb=>?_) (fun hb=>?_)
   ·have ho:d % 2=1:=by simp at hb;omega
    repeat(first|refine uS ?_ |refine aa rfl ?_ |refine ad (by simp(disch:=omega) only[uB,uT,hsh,hsi,Hm hd2];exact rfl) ?_)
    exact aH (j+1) [(0, .str t),(3, .int .u32 (nH d:Int)),(6, .int .i64 (t.len:Int)),(7, .int .i64 (i:Int)),(16, .int .i64 ((j+1:Nat):Int))] ⟨rfl,by omega,_,ru hd,hs8,rfl⟩ (by show 8- (j+1)<8- j;omega) (by rw[ym ho];simp[aI,az])
   ·have ho:¬d % 2=1:=by simp at hb;omega
    repeat(first|refine uS ?_ |refine aa rfl ?_ |refine ad (by simp(disch:=omega) only[uB,uT,hsh,hsi];exact rfl) ?_)
    exact aH (j+1) [(0, .str t),(3, .int .u32 (nH d:Int)),(6, .int .i64 (t.len:Int)),(7, .int .i64 (i:Int)),(16, .int .i64 ((j+1:Nat):Int))] ⟨rfl,by omega,_,ru hd,hs8,rfl⟩ (by show 8- (j+1)<8- j;omega) (by rw[wD ho];simp[aI,az])
  ·simp at hq2
   have:j=8:=by omega
   subst this
   have hde:d=gZ 8 (Nat.xor c (t.at i)):=hdd
   refine uG ?_
   exact aH (i+1) [(0, .str t),(3, .int .u32 (d:Int)),(6, .int .i64 (t.len:Int)),(7, .int .i64 ((i+1:Nat):Int))] ⟨rfl,by omega,d,hd,by rw[hde];exact hstep,rfl⟩ (by show t.len- (i+1)<t.len- i;omega) (by simp[aI,az])
 ·simp at hq
  have:i=t.len:=by omega
  subst this
  have hce:c=Bg t:=by rw[←hcc,Nat.sub_self];rfl
  repeat(first|refine uS ?_ |refine aa rfl ?_ |refine ad (by simp(disch:=omega) only[uB,uT,ME hc];exact rfl) ?_)
  refine ai rfl ?_
  rw[hce];rfl
theorem KI:X.fns.get 41=some Try.f41:=by kernel_rfl
theorem JD (ho:O 41=none){s:St}{t:Str}(hl:t.len≤1000000000):Ca X O (.fn 41) [.str t] s fun r=>r= .ret (.int .u32 (mz t:Int)) s:=by
 refine bb ho KI rfl ?_
 unfold aD aD
 repeat(first|refine uS ?_ |refine aa rfl ?_ |refine ad (by simp(disch:=omega) only[uB,uT,aJ aE];exact rfl) ?_)
 let I:Nat→Sl→St→Prop:=fun i L s'=>s'=s∧i≤t.len∧∃c:Nat,c<4294967296∧tN t (t.len- i) i c=Bg t∧L=[(0, .str t),(3, .int .u32 (c:Int)),(4, .int .i64 (i:Int))]
 refine WL.less (M:=[(0, .str t),(3, .int .u32 ((4294967295:Nat):Int)),(4, .int .i64 ((0:Nat):Int))]) ?_ rfl
 refine aV I (fun i=>t.len- i) ?_ t.len 0 _ s (by simp) ⟨rfl,Nat.zero_le _,4294967295,by decide,rfl,rfl⟩
 rintro i L s' ⟨rfl,hi,c,hc,hcc,rfl⟩
 repeat(first|refine uS ?_ |refine aa rfl ?_ |refine ad (by simp(disch:=omega) only[uB,uT,aJ aE];exact rfl) ?_)
 refine uJ [0,3,4,9] ?_
 refine ae rfl rfl (fun hq=>?_) (fun hq=>?_)
 ·simp at hq
  have hx:=zM hc (Nat.lt_trans (yg t i) (by decide:256<4294967296))
  have hstep:tN t (t.len- (i+1)) (i+1) (gZ 8 (Nat.xor c (t.at i)))=Bg t:=by
   rw[←hcc,show t.len- i=(t.len- (i+1))+1 by omega]
   simp only[tN,o9]
  repeat(first|refine uS ?_ |refine aa rfl ?_ |refine ad (by simp(disch:=omega) only[uB,uT,BP aE,Int.toNat_natCast,Jh jB rn (yg t i),Gp hc (Nat.lt_trans (yg t i) (by decide:256<4294967296))];exact rfl) ?_)
  let J:Nat→Sl→St→Prop:=fun j L s2=>s2=s'∧j≤8∧∃d:Nat,d<4294967296∧gZ (8- j) d=gZ 8 (Nat.xor c (t.at i))∧L=[(0, .str t),(3, .int .u32 (d:Int)),(4, .int .i64 (i:Int)),(5, .int .i64 (j:Int))]
  refine WL.less (M:=[(0, .str t),(3, .int .u32 ((Nat.xor c (t.at i):Nat):Int)),(4, .int .i64 (i:Int)),(5, .int .i64 ((0:Nat):Int))]) ?_ rfl
  refine aV J (fun j=>8- j) ?_ 8 0 _ _ (by simp) ⟨rfl,Nat.zero_le _,_,hx,rfl,rfl⟩
  rintro j L s2 ⟨rfl,hj,d,hd,hdd,rfl⟩
  refine uG ?_
  refine uJ [0,3,4,5,19] ?_
  refine ae rfl rfl (fun hq2=>?_) (fun hq2=>?_)
  ·simp at hq2
   have hs8:gZ (8- (j+1)) (nH d)=gZ 8 (Nat.xor c (t.at i)):=by
    rw[←hdd,show 8- j=(8- (j+1))+1 by omega]
    simp only[gZ,o9]
   have hsh:∀ {c:Bool},aW X .shr 110 c (.int .u32 (d:Int)) (.int .u64 1)=some (.int .u32 ((d/2:Nat):Int)):=fun{c}=>lM (m:=1) (by decide)
   have hsi:∀ {c:Bool},aW X .shr 110 c (.int .u32 (d:Int)) (.int .i64 1)=some (.int .u32 ((d/2:Nat):Int)):=fun{c}=>lM (m:=1) (by decide)
   have hd2:d/2<4294967296:=by omega
   repeat(first|refine uS ?_ |refine aa rfl ?_ |refine ad (by simp(disch:=omega) only[uB,uT,IZ hd];exact rfl) ?_)
   refine uJ [0,3,4,5,24] ?_
   refine ae rfl rfl (fun hb=>?_) (fun hb=>?_)
   ·have ho:d % 2=1:=by simp at hb;omega
    repeat(first|refine uS ?_ |refine aa rfl ?_ |refine ad (by simp(disch:=omega) only[uB,uT,hsh,hsi,Hm hd2];exact rfl) ?_)
    exact aH (j+1) [(0, .str t),(3, .int .u32 (nH d:Int)),(4, .int .i64 (i:Int)),(5, .int .i64 ((j+1:Nat):Int))] ⟨rfl,by omega,_,ru hd,hs8,rfl⟩ (by show 8- (j+1)<8- j;omega) (by rw[ym ho];simp[aI,az])
   ·have ho:¬d % 2=1:=by simp at hb;omega
    repeat(first|refine uS ?_ |refine aa rfl ?_ |refine ad (by simp(disch:=omega) only[uB,uT,hsh,hsi];exact rfl) ?_)
    exact aH (j+1) [(0, .str t),(3, .int .u32 (nH d:Int)),(4, .int .i64 (i:Int)),(5, .int .i64 ((j+1:Nat):Int))] ⟨rfl,by omega,_,ru hd,hs8,rfl⟩ (by show 8- (j+1)<8- j;omega) (by rw[wD ho];simp[aI,az])
  ·simp at hq2
   have:j=8:=by omega
   subst this
   have hde:d=gZ 8 (Nat.xor c (t.at i)):=hdd
   refine uG ?_
   exact aH (i+1) [(0, .str t),(3, .int .u32 (d:Int)),(4, .int .i64 ((i+1:Nat):Int))] ⟨rfl,by omega,d,hd,by rw[hde];exact hstep,rfl⟩ (by show t.len- (i+1)<t.len- i;omega) (by simp[aI,az])
 ·simp at hq
  have:i=t.len:=by omega
  subst this
  have hce:c=Bg t:=by rw[←hcc,Nat.sub_self];rfl
  repeat(first|refine uS ?_ |refine aa rfl ?_ |refine ad (by simp(disch:=omega) only[uB,uT,ME hc];exact rfl) ?_)
  refine ai rfl ?_
  rw[hce];rfl
theorem EA {P:Program}(hX:dU P X)(hF:∀f fn,X.fns.get f=some fn→sU fn=true){f:FuncId}(h:∀ {O:bj} {s:St} {t:Str},O f=none→t.len≤1000000000→Ca X O (.fn f) [.str t] s fun r=>r= .ret (.int .u32 (mz t:Int)) s):fK P f nc:=
 EL hX hF (HN P) rfl fun args s r hr=>by
  unfold nc at hr
  split at hr
  ·split at hr
   ·rename_i hl
    cases hr
    exact h rfl (Nat.ble_eq.mp hl)
   ·cases hr
  ·cases hr
end
end Go.Proofs.Ytofohkdkpbigiaa
end
section
namespace Go.Am
open Go.Proofs (encStr bytesLess_eq)
open Go.WideMaps (keyOf_string_mk)
open Go.RowKit (Below)
def bs (b:ByteArray):List UInt8:=b.data.toList
theorem lt_iff (a b:ByteArray):(Str.of a).lt (Str.of b)=decide (bs a<bs b):=by
 rw[Str.Mt,bytesLess_eq];rfl
structure PH (P:Program)(S kt:Nat)(kfs:List Nat):Prop where
 enter:∀args w,(callFunc S args).run P w= .ok (.enter S args) w
 und:P.underlying kt=some .string
 keys:∀g,dx g kfs=true→∀ (Bm b nn:Nat) (D0:DataW Unit) (R:Value→Option (DataW Unit×List MemPlace)) (w:World),Bm<w.heap.size→w.cell? ⟨Bm,0,none⟩=some (.map (some b))→w.ownsMap P kt R b nn D0→Maps.size D0≤maxLen→Maps.size D0*16≤140737488355328→
  CallsIn (FE P none) 0 P S #[.func (.func g) #[] #[.pointer (some ⟨Bm,0,none⟩)]] w fun e w'=>∃ (v:Value) (ss:List (List UInt8)),e= .returned v∧ss.Perm (strKeys D0)∧w'.ownsRow w.heap.size kt 1 v ss.length ((ss.mergeSort leB).map encStr)∧(v= .slice none 0 0↔ss=[])∧Below w.heap.size w w'
end Go.Am
end
section
namespace Go.Am
mutual
def AV.up (K:List Nat)(n:Nat):AV→AV
 | .ptr (some (b,o))=>match K[b]? with|some _=> .ptr (some (n+b,o))|none=> .top
 | .slc (some (b,o,es)) l c x=>match K[b]? with|some _=> .slc (some (n+b,o,es)) l c x|none=> .top
 | .map _=> .top
 | .func _ _ _=> .top
 | .yld _=> .top
 | .iface t v=> .iface t (v.up K n)
 | .agg cs=> .agg (AV.ups K n cs)
 | .tup vs=> .tup (AV.ups K n vs)
 | .top=> .top
 | .bool b=> .bool b
 | .int k i=> .int k i
 | .flt k b=> .flt k b
 | .str s=> .str s
 | .ptr none=> .ptr none
 | .slc none l c x=> .slc none l c x
 | .nilFunc=> .nilFunc
 | .nilIface=> .nilIface
 | .any=> .any
 | .gp g o=> .gp g o
 | .cls k b m r=> .cls k b m r
 | .ne k i=> .ne k i
def AV.ups (K:List Nat)(n:Nat):List AV→List AV
 |[]=>[]
 |a::l=>a.up K n::AV.ups K n l
end
mutual
def AV.ren (K:List Nat):AV→AV
 | .ptr (some (b,o))=>match K[b]? with|some k=> .ptr (some (k,o))|none=> .yld 0
 | .slc (some (b,o,es)) l c x=>match K[b]? with|some k=> .slc (some (k,o,es)) l c x|none=> .yld 0
 | .map r=> .map r
 | .func f a b=> .func f a b
 | .yld b=> .yld b
 | .iface t v=> .iface t (v.ren K)
 | .agg cs=> .agg (AV.vK K cs)
 | .tup vs=> .tup (AV.vK K vs)
 | .top=> .top
 | .bool b=> .bool b
 | .int k i=> .int k i
 | .flt k b=> .flt k b
 | .str s=> .str s
 | .ptr none=> .ptr none
 | .slc none l c x=> .slc none l c x
 | .nilFunc=> .nilFunc
 | .nilIface=> .nilIface
 | .any=> .any
 | .gp g o=> .gp g o
 | .cls k b m r=> .cls k b m r
 | .ne k i=> .ne k i
def AV.vK (K:List Nat):List AV→List AV
 |[]=>[]
 |a::l=>a.ren K::AV.vK K l
end
mutual
def AV.eqb:AV→AV→Bool
 | .top, .top=>true
 | .bool a, .bool b=>a==b
 | .int k i, .int l j=>decide (k=l)&&decide (i=j)
 | .flt k i, .flt l j=>decide (k=l)&&Nat.beq i j
 | .str a, .str b=>Str.beq a b
 | .ptr none, .ptr none=>true
 | .ptr (some (b,o)), .ptr (some (c,p))=>Nat.beq b c&&Nat.beq o p
 | .slc none l c x, .slc none m d y=>Nat.beq l m&&Nat.beq c d&& (x==y)
 | .slc (some (b,o,e)) l c x, .slc (some (b',o',e')) m d y=>Nat.beq b b'&&Nat.beq o o'&&Nat.beq e e'&&Nat.beq l m&&Nat.beq c d&& (x==y)
 | .nilFunc, .nilFunc=>true
 | .nilIface, .nilIface=>true
 | .iface t v, .iface t' v'=>decide (t=t')&&AV.eqb v v'
 | .agg l, .agg m=>AV.B8 l m
 | .tup l, .tup m=>AV.B8 l m
 | _,_=>false
def AV.B8:List AV→List AV→Bool
 |[],[]=>true
 |a::l,b::m=>AV.eqb a b&&AV.B8 l m
 | _,_=>false
end
theorem Str.beq_eq {a b:Str}(h:Str.beq a b=true):a=b:=by
 obtain⟨l,v⟩:=a
 obtain⟨m,u⟩:=b
 simp only[Str.beq,Bool.and_eq_true,Nat.beq_eq] at h
 rw[h.1,h.2]
mutual
theorem AV.z8:∀ {a b:AV},AV.eqb a b=true→a=b:=by
 intro a b h
 match a,b,h with
 | .top, .top,_=>rfl
 | .bool a, .bool b,h=>simp only[AV.eqb,beq_iff_eq] at h;rw[h]
 | .int k i, .int l j,h=>simp only[AV.eqb,Bool.and_eq_true,decide_eq_true_eq] at h;rw[h.1,h.2]
 | .flt k i, .flt l j,h=>simp only[AV.eqb,Bool.and_eq_true,decide_eq_true_eq,Nat.beq_eq] at h;rw[h.1,h.2]
 | .str a, .str b,h=>simp only[AV.eqb] at h;rw[Str.beq_eq h]
 | .ptr none, .ptr none,_=>rfl
 | .ptr (some (b,o)), .ptr (some (c,p)),h=>simp only[AV.eqb,Bool.and_eq_true,Nat.beq_eq] at h;rw[h.1,h.2]
 | .slc none l c x, .slc none m d y,h=>simp only[AV.eqb,Bool.and_eq_true,Nat.beq_eq,beq_iff_eq] at h;rw[h.1.1,h.1.2,h.2]
 | .slc (some (b,o,e)) l c x, .slc (some (b',o',e')) m d y,h=>
  simp only[AV.eqb,Bool.and_eq_true,Nat.beq_eq,beq_iff_eq] at h
  obtain⟨⟨⟨⟨⟨h1,h2⟩,h3⟩,h4⟩,h5⟩,h6⟩:=h
  rw[h1,h2,h3,h4,h5,h6]
 | .nilFunc, .nilFunc,_=>rfl
 | .nilIface, .nilIface,_=>rfl
 | .iface t v, .iface t' v',h=>simp only[AV.eqb,Bool.and_eq_true,decide_eq_true_eq] at h;rw[h.1,AV.z8 h.2]
 | .agg l, .agg m,h=>simp only[AV.eqb] at h;rw[AV.vg h]
 | .tup l, .tup m,h=>simp only[AV.eqb] at h;rw[AV.vg h]
theorem AV.vg:∀ {l m:List AV},AV.B8 l m=true→l=m
 |[],[],_=>rfl
 |a::l,b::m,h=>by
  simp only[AV.B8,Bool.and_eq_true] at h
  rw[AV.z8 h.1,AV.vg h.2]
 |[],_::_,h=>by simp[AV.B8] at h
 | _::_,[],h=>by simp[AV.B8] at h
end
mutual
theorem VR.up {κ μ:Inj}{n:Nat}{K:List Nat}(h:∀b k x,K[b]? =some k→κ k=some x→μ (n+b)=some x):∀ {a:AV} {v:Value},VR κ (a.ren K) v→VR μ (a.up K n) v
 | .top,_,_=>by simp[AV.up,VR]
 | .bool _,_,hv=>by simpa[AV.up,AV.ren,VR] using hv
 | .int _ _,_,hv=>by simpa[AV.up,AV.ren,VR] using hv
 | .flt _ _,_,hv=>by simpa[AV.up,AV.ren,VR] using hv
 | .str _,_,hv=>by simpa[AV.up,AV.ren,VR] using hv
 | .ptr none,_,hv=>by simpa[AV.up,AV.ren,VR] using hv
 | .ptr (some (b,o)),v,hv=>by
  simp only[AV.ren] at hv
  cases hk:K[b]? with
  |none=>simp[AV.up,hk,VR]
  |some k=>
   rw[hk] at hv
   simp only[VR] at hv
   obtain⟨c,d,h1,h2⟩:=hv
   simp only[AV.up,hk,VR]
   exact⟨c,d,h _ _ _ hk h1,h2⟩
 | .slc none _ _ _,_,hv=>by simpa[AV.up,AV.ren,VR] using hv
 | .slc (some (b,o,es)) l c x,v,hv=>by
  simp only[AV.ren] at hv
  cases hk:K[b]? with
  |none=>simp[AV.up,hk,VR]
  |some k=>
   rw[hk] at hv
   simp only[VR] at hv
   obtain⟨cb,d,off,m,h1,h2⟩:=hv
   simp only[AV.up,hk,VR]
   exact⟨cb,d,off,m,h _ _ _ hk h1,h2⟩
 | .map _,_,_=>by simp[AV.up,VR]
 | .func _ _ _,_,_=>by simp[AV.up,VR]
 | .nilFunc,_,hv=>by simpa[AV.up,AV.ren,VR] using hv
 | .iface t u,v,hv=>by
  simp only[AV.ren,VR] at hv
  obtain⟨x,h1,h2⟩:=hv
  simp only[AV.up,VR]
  exact⟨x,h1,VR.up h h2⟩
 | .nilIface,_,hv=>by simpa[AV.up,AV.ren,VR] using hv
 | .agg cs,v,hv=>by
  simp only[AV.ren,VR] at hv
  obtain⟨x,h1,h2⟩:=hv
  simp only[AV.up,VR]
  exact⟨x,h1,VRs.up h h2⟩
 | .tup cs,v,hv=>by
  simp only[AV.ren,VR] at hv
  obtain⟨x,h1,h2⟩:=hv
  simp only[AV.up,VR]
  exact⟨x,h1,VRs.up h h2⟩
 | .any,_,hv=>by simpa[AV.up,AV.ren,VR] using hv
 | .yld _,_,_=>by simp[AV.up,VR]
 | .gp _ _,_,hv=>by simpa[AV.up,AV.ren,VR] using hv
 | .cls _ _ _ _,_,hv=>by simpa[AV.up,AV.ren,VR] using hv
 | .ne _ _,_,hv=>by simpa[AV.up,AV.ren,VR] using hv
theorem VRs.up {κ μ:Inj}{n:Nat}{K:List Nat}(h:∀b k x,K[b]? =some k→κ k=some x→μ (n+b)=some x):∀ {l:List AV} {m:List Value},VRs κ (AV.vK K l) m→VRs μ (AV.ups K n l) m
 |[],[],_=>by simp[AV.ups,VRs]
 |[],_::_,hv=>by simp[AV.vK,VRs] at hv
 | _::_,[],hv=>by simp[AV.vK,VRs] at hv
 |a::l,v::m,hv=>by
  simp only[AV.vK,VRs,AV.ups] at hv ⊢
  exact⟨VR.up h hv.1,VRs.up h hv.2⟩
end
mutual
def AV.flat:AV→Bool
 | .top| .bool _| .int _ _| .flt _ _| .str _| .ptr none| .slc none _ _ _| .nilFunc| .nilIface| .any=>true
 | .iface _ v=>v.flat
 | .agg cs=>AV.yi cs
 | .tup cs=>AV.yi cs
 | _=>false
def AV.yi:List AV→Bool
 |[]=>true
 |a::l=>a.flat&&AV.yi l
end
mutual
theorem VR.flat {ι κ:Inj}:∀ {a:AV} {v:Value},a.flat=true→VR ι a v→VR κ a v
 | .top,_,_,_=>by simp[VR]
 | .bool _,_,_,hv=>by simpa[VR] using hv
 | .int _ _,_,_,hv=>by simpa[VR] using hv
 | .flt _ _,_,_,hv=>by simpa[VR] using hv
 | .str _,_,_,hv=>by simpa[VR] using hv
 | .ptr none,_,_,hv=>by simpa[VR] using hv
 | .ptr (some _),_,hf,_=>by simp[AV.flat] at hf
 | .slc none _ _ _,_,_,hv=>by simpa[VR] using hv
 | .slc (some _) _ _ _,_,hf,_=>by simp[AV.flat] at hf
 | .map _,_,hf,_=>by simp[AV.flat] at hf
 | .func _ _ _,_,hf,_=>by simp[AV.flat] at hf
 | .nilFunc,_,_,hv=>by simpa[VR] using hv
 | .iface t u,v,hf,hv=>by
  simp only[AV.flat] at hf
  simp only[VR] at hv ⊢
  obtain⟨x,h1,h2⟩:=hv
  exact⟨x,h1,VR.flat hf h2⟩
 | .nilIface,_,_,hv=>by simpa[VR] using hv
 | .agg cs,v,hf,hv=>by
  simp only[AV.flat] at hf
  simp only[VR] at hv ⊢
  obtain⟨x,h1,h2⟩:=hv
  exact⟨x,h1,VRs.flat hf h2⟩
 | .tup cs,v,hf,hv=>by
  simp only[AV.flat] at hf
  simp only[VR] at hv ⊢
  obtain⟨x,h1,h2⟩:=hv
  exact⟨x,h1,VRs.flat hf h2⟩
 | .any,_,_,hv=>by simpa[VR] using hv
 | .yld _,_,hf,_=>by simp[AV.flat] at hf
 | .gp _ _,_,hf,_=>by simp[AV.flat] at hf
 | .cls _ _ _ _,_,hf,_=>by simp[AV.flat] at hf
 | .ne _ _,_,hf,_=>by simp[AV.flat] at hf
theorem VRs.flat {ι κ:Inj}:∀ {l:List AV} {m:List Value},AV.yi l=true→VRs ι l m→VRs κ l m
 |[],[],_,_=>by simp[VRs]
 |[],_::_,_,hv=>by simp[VRs] at hv
 | _::_,[],_,hv=>by simp[VRs] at hv
 |a::l,v::m,hf,hv=>by
  simp only[AV.yi,Bool.and_eq_true] at hf
  simp only[VRs] at hv ⊢
  exact⟨VR.flat hf.1 hv.1,VRs.flat hf.2 hv.2⟩
end
structure xE where
 args:List AV
 v:AV
 K:List Nat
 bl:List (List AV)
 gl:List (Nat×List AV)
 sh:List Nat
noncomputable def K0:List (Nat×List AV)→Tr (Tr AV)
 |[]=> .e
 |(g,c)::l=>(K0 l).put g (Tr.of c)
noncomputable def xE.st0 (m:xE):St:={h:= .e,nx:=0,gl:=K0 m.gl,sh:=[]}
noncomputable def ny (c:Tr AV):Nat→List AV→Bool
 | _,[]=>true
 |i,a::l=>(match c.get i with|some v=>AV.eqb a v|none=>false)&&ny c (i+1) l
noncomputable def EB (t:Tr (Tr AV)):List (Nat×List AV)→Bool
 |[]=>true
 |(g,c)::l=>(match t.get g with|some x=>ny x 0 c|none=>false)&&EB t l
noncomputable def nK (t:St)(K:List Nat):List Nat→List (List AV)→Bool
 |[],[]=>true
 |k::ks,b::bs=>(match t.h.get k with|some (.cells c n)=>Nat.beq n b.length&&ny c 0 (AV.vK K b)| _=>false)&&nK t K ks bs
 | _,_=>false
def As:List Nat→Bool
 |[]=>true
 |a::l=> !dx a l&&As l
def JK (tsh msh:List Nat):Nat→List Nat→Bool
 | _,[]=>true
 |i,k::ks=>(dx i msh|| !dx k tsh)&&JK tsh msh (i+1) ks
def F7 (n:Nat):List Nat→List Nat→List Nat
 |[],l=>l
 |i::is,l=>(n+i)::F7 n is l
noncomputable def xE.ok (m:xE):Option CR→Bool
 |some (.ret v t)=>AV.eqb (m.v.ren m.K) v&&nK t m.K m.K m.bl&&As m.K&&JK t.sh m.sh 0 m.K&&AV.yi m.args
 | _=>false
noncomputable def kq (K:List Nat)(n:Nat):List (List AV)→St→St
 |[],s=>s
 |b::bs,s=>kq K n bs (s.new (.cells (Tr.of (AV.ups K n b)) b.length)).2
noncomputable def xE.own (m:xE):List AV→St→Option CR:=fun args s=>
 if AV.B8 args m.args&&EB s.gl m.gl then some (.ret (m.v.up m.K s.nx) {kq m.K s.nx m.bl s with sh:=F7 s.nx m.sh s.sh}) else none
theorem yc (K:List Nat)(n:Nat):∀ (bl:List (List AV)) (s:St),(kq K n bl s).nx=s.nx+bl.length∧(kq K n bl s).gl=s.gl∧(kq K n bl s).sh=s.sh
 |[],s=>⟨rfl,rfl,rfl⟩
 |b::bs,s=>by
  obtain⟨h1,h2,h3⟩:=yc K n bs (s.new (.cells (Tr.of (AV.ups K n b)) b.length)).2
  refine⟨?_,h2,h3⟩
  rw[kq,h1]
  show s.nx+1+bs.length=s.nx+(bs.length+1)
  omega
theorem wB (K:List Nat)(n:Nat):∀ (bl:List (List AV)) (s:St) (b:Nat) (ab:AB),(kq K n bl s).h.get b=some ab→
  (∃ (i:Nat) (l:List AV),b=s.nx+i∧bl[i]? =some l∧ab= .cells (Tr.of (AV.ups K n l)) l.length)∨((b<s.nx∨s.nx+bl.length≤b)∧s.h.get b=some ab)
 |[],s,b,ab,h=> .inr ⟨by simp;omega,h⟩
 |x::bs,s,b,ab,h=>by
  rw[kq] at h
  rcases wB K n bs _ b ab h with⟨i,l,h1,h2,h3⟩|⟨h1,h2⟩
  ·refine .inl ⟨i+1,l,?_,by simpa using h2,h3⟩
   have:(s.new (.cells (Tr.of (AV.ups K n x)) x.length)).2.nx=s.nx+1:=rfl
   omega
  ·have e:(s.new (.cells (Tr.of (AV.ups K n x)) x.length)).2.nx=s.nx+1:=rfl
   rw[e] at h1
   rcases Tr.df h2 with⟨h3,h4⟩|⟨h3,h4⟩
   ·exact .inl ⟨0,x,h3,rfl,h4.symm⟩
   ·refine .inr ⟨?_,h4⟩
    simp only[List.length_cons]
    omega
theorem mY {c:Tr AV}:∀ {l:List AV} {i:Nat},ny c i l=true→∀ (j:Nat) (a:AV),l[j]? =some a→c.get (i+j)=some a
 |[],_,_,j,a,h=>by simp at h
 |x::l,i,h,j,a,hj=>by
  simp only[ny,Bool.and_eq_true] at h
  obtain⟨h1,h2⟩:=h
  cases j with
  |zero=>
   simp only[List.getElem?_cons_zero,Option.some.injEq] at hj
   subst hj
   split at h1
   ·rename_i v hv
    rw[AV.z8 h1];exact hv
   ·cases h1
  |succ j=>
   have:=mY h2 j a (by simpa using hj)
   rw[←this]
   congr 1
   omega
theorem BC {K:List Nat}:∀ {l:List AV} {j:Nat} {a:AV},l[j]? =some a→(AV.vK K l)[j]? =some (a.ren K)
 |[],j,a,h=>by simp at h
 |x::l,0,a,h=>by simp only[List.getElem?_cons_zero,Option.some.injEq] at h;subst h;simp[AV.vK]
 |x::l,j+1,a,h=>by simp only[AV.vK,List.getElem?_cons_succ] at h ⊢;exact BC h
theorem Ey {K:List Nat}{n:Nat}:∀ {l:List AV} {j:Nat} {a:AV},(AV.ups K n l)[j]? =some a→∃x,l[j]? =some x∧a=x.up K n
 |[],j,a,h=>by simp[AV.ups] at h
 |x::l,0,a,h=>by simp only[AV.ups,List.getElem?_cons_zero,Option.some.injEq] at h;exact⟨x,rfl,h.symm⟩
 |x::l,j+1,a,h=>by simp only[AV.ups,List.getElem?_cons_succ] at h ⊢;exact Ey h
theorem xQ {t:Tr (Tr AV)}:∀ {l:List (Nat×List AV)},EB t l=true→∀g c,(K0 l).get g=some c→∃x,t.get g=some x∧∀i v,c.get i=some v→x.get i=some v
 |[],_,g,c,h=>by simp[K0,Tr.ry] at h
 |(g0,c0)::l,h,g,c,hg=>by
  simp only[EB,Bool.and_eq_true] at h
  obtain⟨h1,h2⟩:=h
  rcases Tr.df hg with⟨e1,e2⟩|⟨_,h3⟩
  ·subst e1;subst e2
   split at h1
   ·rename_i x hx
    refine⟨x,hx,fun i v hi=>?_⟩
    have:=mY h1 i v (Tr.dF hi)
    simpa using this
   ·cases h1
  ·exact xQ h2 g c h3
theorem rI {t:St}{K:List Nat}:∀ {ks:List Nat} {bl:List (List AV)},nK t K ks bl=true→ks.length=bl.length∧∀ (i:Nat) (l:List AV),bl[i]? =some l→∃ (k:Nat) (c:Tr AV) (n:Nat),ks[i]? =some k∧t.h.get k=some (.cells c n)∧n=l.length∧∀ (j:Nat) (a:AV),l[j]? =some a→c.get j=some (a.ren K)
 |[],[],_=>⟨rfl,fun i l h=>by simp at h⟩
 |[],_::_,h=>by simp[nK] at h
 | _::_,[],h=>by simp[nK] at h
 |k::ks,b::bs,h=>by
  simp only[nK,Bool.and_eq_true] at h
  obtain⟨h1,h2⟩:=h
  obtain⟨e,hr⟩:=rI h2
  refine⟨by simp[e],fun i l hl=>?_⟩
  cases i with
  |zero=>
   simp only[List.getElem?_cons_zero,Option.some.injEq] at hl
   subst hl
   split at h1
   ·rename_i c n hc
    simp only[Bool.and_eq_true,Nat.beq_eq] at h1
    refine⟨k,c,n,rfl,hc,h1.1,fun j a hj=>?_⟩
    have:=mY h1.2 j _ (BC hj)
    simpa using this
   ·cases h1
  |succ i=>
   obtain⟨k',c,n,g1,g2⟩:=hr i l (by simpa using hl)
   exact⟨k',c,n,by simpa using g1,g2⟩
theorem wN {a:Nat}:∀ {l:List Nat},a∈l→dx a l=true
 |[],h=>by cases h
 |b::l,h=>by
  simp only[dx]
  split
  ·rfl
  ·rename_i e
   have hne:a≠b:=fun x=>by subst x;simp[Nat.beq_refl] at e
   rcases List.mem_cons.mp h with x|x
   ·exact absurd x hne
   ·exact wN x
theorem vo:∀ {K:List Nat},As K=true→∀ (i j k:Nat),K[i]? =some k→K[j]? =some k→i=j
 |[],_,i,j,k,h,_=>by simp at h
 |a::l,h,i,j,k,hi,hj=>by
  simp only[As,Bool.and_eq_true,Bool.not_eq_true'] at h
  cases i with
  |zero=>
   cases j with
   |zero=>rfl
   |succ j=>
    simp only[List.getElem?_cons_zero,Option.some.injEq,List.getElem?_cons_succ] at hi hj
    subst hi
    have:=wN (List.mem_of_getElem? hj)
    rw[h.1] at this;cases this
  |succ i=>
   cases j with
   |zero=>
    simp only[List.getElem?_cons_zero,Option.some.injEq,List.getElem?_cons_succ] at hi hj
    subst hj
    have:=wN (List.mem_of_getElem? hi)
    rw[h.1] at this;cases this
   |succ j=>
    simp only[List.getElem?_cons_succ] at hi hj
    rw[vo h.2 i j k hi hj]
theorem BI {tsh msh:List Nat}:∀ {K:List Nat} {i:Nat},JK tsh msh i K=true→∀ (j k:Nat),K[j]? =some k→dx (i+j) msh=false→dx k tsh=false
 |[],i,h,j,k,hk,_=>by simp at hk
 |x::K,i,h,j,k,hk,hn=>by
  simp only[JK,Bool.and_eq_true,Bool.or_eq_true,Bool.not_eq_true'] at h
  cases j with
  |zero=>
   simp only[List.getElem?_cons_zero,Option.some.injEq] at hk
   subst hk
   rcases h.1 with h1|h1
   ·rw[Nat.add_zero] at hn;rw[hn] at h1;cases h1
   ·exact h1
  |succ j=>exact BI h.2 j k (by simpa using hk) (by rw[←hn];congr 1;omega)
theorem vY {a b:Nat}{l:List Nat}(h:dx a (b::l)=false):a≠b∧dx a l=false:=by
 simp only[dx] at h
 split at h
 ·cases h
 ·rename_i e
  exact⟨fun x=>by subst x;simp[Nat.beq_refl] at e,h⟩
theorem AG {n b:Nat}:∀ {ms l:List Nat},dx b (F7 n ms l)=false→dx b l=false
 |[],_,h=>h
 | _::is,_,h=>AG (ms:=is) (vY h).2
theorem Bv {n i:Nat}:∀ {ms l:List Nat},dx (n+i) (F7 n ms l)=false→dx i ms=false
 |[],l,h=>rfl
 |j::js,l,h=>by
  obtain⟨h1,h2⟩:=vY h
  have:=Bv (ms:=js) h2
  simp only[dx]
  split
  ·rename_i e;have:=Nat.eq_of_beq_eq_true e;omega
  ·exact this
theorem I3 {P:Program}{X:Ctx}(hX:dU P X)(hF:∀f fn,X.fns.get f=some fn→sU fn=true){own:bj}(ho:pc P own){n:Nat}{f:FuncId}(m:xE)
  (h:m.ok (mw X own n f m.args m.st0)=true):fK P f m.own:=by
 intro args s r hr ι w cargs hv hH
 unfold xE.own at hr
 split at hr
 ·rename_i hc
  cases hr
  simp only[Bool.and_eq_true] at hc
  obtain⟨hca,hcg⟩:=hc
  have ea:=AV.vg hca
  subst ea
  unfold xE.ok at h
  split at h
  ·rename_i v t he
   simp only[Bool.and_eq_true] at h
   obtain⟨⟨⟨⟨q1,q2⟩,q3⟩,q4⟩,q5⟩:=h
   have hno:∀cb,¬Own Inj.nil m.st0 cb:=fun cb ⟨b,d,ab,h,_⟩=>by cases h
   have hH0:HR P Inj.nil m.st0 w:=by
    refine⟨fun g c hg=>?_,fun _ _ _ h=>(by cases h),fun _ _ h=>(by cases h),fun _ _ _ _ h=>(by cases h),fun _ _ _ _ _ _ _ h=>(by cases h)⟩
    obtain⟨x,hx,hxc⟩:=xQ hcg g c hg
    obtain⟨_,cs,e,fz,h2,h3⟩:=hH.gl g x hx
    exact⟨hno g,cs,e,fz,h2,fun i v hi=>h3 i v (hxc i v hi)⟩
   obtain⟨e1,e2⟩:=lj hX hF ho n he (VRs.flat q5 hv) hH0
   refine .inl ⟨e1,CallsIn.mono e2 fun e w' hp=>?_⟩
   cases e with
   |panicked c=>obtain⟨v',s'',e,_⟩:=hp;cases e
   |outgrown=>exact hp.elim
   |returned cv=>
    obtain⟨v',t',e,κ,g1,g2,g3⟩:=hp
    cases e
    obtain⟨hlen,hbl⟩:=rI q2
    have far:∀k cb d ab,κ k=some (cb,d)→t.h.get k=some ab→w.heap.size≤cb:=fun k cb d ab h1 h2=>by
     rcases Nat.lt_or_ge cb w.heap.size with hlt|hge
     ·exact absurd ⟨k,d,ab,h1,h2⟩ (g3.jn cb hlt (hno cb)).2
     ·exact hge
    let μ:Inj:=fun b=>if b<s.nx then ι b else match m.K[b- s.nx]? with|some k=>κ k|none=>none
    have μold:∀b,b<s.nx→μ b=ι b:=fun b hb=>by show(if b<s.nx then ι b else _)=_;rw[if_pos hb]
    have μnew:∀i,μ (s.nx+i)=match m.K[i]? with|some k=>κ k|none=>none:=fun i=>by
     show(if s.nx+i<s.nx then _ else _)=_
     rw[if_neg (by omega),Nat.add_sub_cancel_left]
    have μK:∀b k x,m.K[b]? =some k→κ k=some x→μ (s.nx+b)=some x:=fun b k x h1 h2=>by rw[μnew,h1];exact h2
    have hle:ι.le μ:=fun b x hb=>by rw[μold b (hH.dom b x hb)];exact hb
    obtain⟨an,ag,ash⟩:=yc m.K s.nx m.bl s
    have live:∀b cb d ab,μ b=some (cb,d)→(kq m.K s.nx m.bl s).h.get b=some ab→
      (b<s.nx∧ι b=some (cb,d)∧s.h.get b=some ab)∨(∃ (i:Nat) (l:List AV) (k:Nat) (c:Tr AV) (nn:Nat),b=s.nx+i∧m.bl[i]? =some l∧ab= .cells (Tr.of (AV.ups m.K s.nx l)) l.length∧m.K[i]? =some k∧κ k=some (cb,d)∧t.h.get k=some (.cells c nn)∧nn=l.length∧∀ (j:Nat) (a:AV),l[j]? =some a→c.get j=some (a.ren m.K)):=by
     intro b cb d ab hb hg
     rcases wB m.K s.nx m.bl s b ab hg with⟨i,l,h1,h2,h3⟩|⟨h1,h2⟩
     ·obtain⟨k,c,nn,k1,k2,k3,k4⟩:=hbl i l h2
      subst h1
      rw[μnew,k1] at hb
      exact .inr ⟨i,l,k,c,nn,rfl,h2,h3,k1,hb,k2,k3,k4⟩
     ·rcases Nat.lt_or_ge b s.nx with hlt|hge
      ·rw[μold b hlt] at hb
       exact .inl ⟨hlt,hb,h2⟩
      ·exfalso
       obtain⟨i,rfl⟩:∃i,b=s.nx+i:=⟨b- s.nx,by omega⟩
       rw[μnew] at hb
       have:m.K[i]? =none:=List.getElem?_eq_none (by omega)
       rw[this] at hb
       cases hb
    have hE:Ext ι s w μ {kq m.K s.nx m.bl s with sh:=F7 s.nx m.sh s.sh} w':=by
     refine⟨hle,g3.size,fun cb hcb ho'=>⟨(g3.jn cb hcb (hno cb)).1,?_⟩,fun b hb=>μold b hb,by show s.nx≤(kq m.K s.nx m.bl s).nx;omega,g3.kin,fun cb hcb j=>?_,fun cb=>(g3.kept cb).mono fun j ⟨b,d,ab,h1,h2,h3⟩=>absurd ⟨b,d,ab,h1,h2⟩ (hno cb)⟩
     ·rintro⟨b,d,ab,hb,hg⟩
      rcases live b cb d ab hb hg with⟨_,h2,h3⟩|⟨i,l,k,c,nn,_,_,_,_,h5,h6,_⟩
      ·exact ho' ⟨b,d,ab,h2,h3⟩
      ·have:=far k cb d _ h5 h6;omega
     ·rintro⟨b,d,ab,hb,hg,hj⟩
      rcases live b cb d ab hb hg with⟨_,h2,h3⟩|⟨i,l,k,c,nn,_,_,_,_,h5,h6,_⟩
      ·exact⟨b,d,ab,h2,h3,hj⟩
      ·have:=far k cb d _ h5 h6;omega
    refine⟨_,_,rfl,μ,VR.up μK (by rw[AV.z8 q1];exact g1),⟨hH.gl.ext hE ag,?_,?_,?_,?_⟩,hE⟩
    ·intro b cb d hb hs
     replace hs:dx b (F7 s.nx m.sh s.sh)=false:=hs
     rcases Nat.lt_or_ge b s.nx with hlt|hge
     ·rw[μold b hlt] at hb
      exact hH.base b cb d hb (AG hs)
     ·obtain⟨i,rfl⟩:∃i,b=s.nx+i:=⟨b- s.nx,by omega⟩
      rw[μnew] at hb
      cases hk:m.K[i]? with
      |none=>rw[hk] at hb;cases hb
      |some k=>
       rw[hk] at hb
       exact g2.base k cb d hb (BI q4 i k hk (by rw[Nat.zero_add];exact Bv hs))
    ·intro b x hb
     show b<(kq m.K s.nx m.bl s).nx
     rcases Nat.lt_or_ge b s.nx with hlt|hge
     ·omega
     ·obtain⟨i,rfl⟩:∃i,b=s.nx+i:=⟨b- s.nx,by omega⟩
      rw[μnew] at hb
      cases hk:m.K[i]? with
      |none=>rw[hk] at hb;cases hb
      |some k=>
       have:=(List.getElem?_eq_some_iff.mp hk).1
       omega
    ·intro b cb d ab hb hg
     rcases live b cb d ab hb hg with⟨_,h2,h3⟩|⟨i,l,k,c,nn,_,_,h3,_,h5,h6,h7,h8⟩
     ·have hbr:=hH.br b cb d ab h2 h3
      exact hbr.frame (g3.jn cb hbr.lt (hno cb)).1 hle
     ·subst h3
      obtain⟨cs,e,fz,z1,z2,z3,z4⟩:=g2.br k cb d _ h5 h6
      refine⟨cs,e,fz,z1,z2,fun j a hj=>?_,fun hw=>z4 (by omega)⟩
      obtain⟨x,y1,y2⟩:=Ey (Tr.dF hj)
      obtain⟨w1,w2,cv',w3,w4⟩:=z3 j _ (h8 j x y1)
      subst y2
      exact⟨by omega,w2,cv',w3,VR.up μK w4⟩
    ·intro b b' cb d d' ab ab' h1 h2 k1 k2
     rcases live b cb d ab h1 k1 with⟨_,x2,x3⟩|⟨i,l,k,c,nn,x1,_,_,x4,x5,x6,_⟩<;>rcases live b' cb d' ab' h2 k2 with⟨_,y2,y3⟩|⟨i',l',k',c',nn',y1,_,_,y4,y5,y6,_⟩
     ·exact hH.inj b b' cb d d' ab ab' x2 y2 x3 y3
     ·have:=(hH.br b cb d ab x2 x3).lt
      have:=far k' cb d' _ y5 y6
      omega
     ·have:=(hH.br b' cb d' ab' y2 y3).lt
      have:=far k cb d _ x5 x6
      omega
     ·have ek:=g2.inj k k' cb d d' _ _ x5 y5 x6 y6
      subst ek
      rw[x1,y1,vo q3 i i' k x4 y4]
  ·cases h
 ·cases hr
end Go.Am
end
section
namespace Go.Proofs.Ytofohkdkpbigiaa
open Go.Am
set_option maxRecDepth 100000
abbrev OL:=List (FuncId× (List AV→St→Option CR))
theorem FY:∀f fn,X.fns.get f=some fn→sU fn=true:=GU fns
theorem P2:fK Try.prog 64 nc:=EA ctx FY fun ho hl=>LN ho hl
theorem PY:fK Try.prog 41 nc:=EA ctx FY fun ho hl=>JD ho hl
theorem MU:fK Try.prog 92 qf:=BV ⟨_,Try.func92,rfl,rfl,rfl,rfl⟩
theorem Qc:fK Try.prog 95 mS:=G5 ctx (ps:= #[52,52]) ⟨_,Try.func95,rfl,rfl,rfl,rfl⟩ rfl bE bW
theorem Qs:fK Try.prog 97 mS:=G5 ctx (ps:= #[70,70]) ⟨_,Try.func97,rfl,rfl,rfl,rfl⟩ rfl bV bM
theorem CS {f:FuncId}{g:List AV→St→Option CR}(h:fK Try.prog f g):∀p∈([(f,g)]:OL),fK Try.prog p.1 p.2:=by
 intro p hp
 rcases List.mem_singleton.mp hp with rfl
 exact h
theorem PF:fK Try.prog 89 (lO 2):=Ex (X:=X) ctx FY (O1:=CV [(95,mS)]) (uV (CS Qc)) (by decide) rfl fun h=>L1 rfl rfl h
theorem Oz:fK Try.prog 91 (lO 1):=Ex (X:=X) ctx FY (O1:=CV [(97,mS)]) (uV (CS Qs)) (by decide) rfl fun h=>KC rfl rfl h
noncomputable def base:OL:=[(64,nc),(41,nc),(92,qf),(89,lO 2),(91,lO 1)]
theorem D1:∀p∈base,fK Try.prog p.1 p.2:=by
 intro p hp
 simp only[base,List.mem_cons,List.not_mem_nil,or_false] at hp
 rcases hp with rfl|rfl|rfl|rfl|rfl
 ·exact P2
 ·exact PY
 ·exact MU
 ·exact PF
 ·exact Oz
noncomputable def awM:xE:={args:=[],v:= .bool true,K:=[],bl:=[],gl:=[],sh:=[]}
theorem MO:awM.ok (mw X (CV base) 1000 11 awM.args awM.st0)=true:=by decide+kernel
theorem Qu:fK Try.prog 11 AY:=by
 have h:=I3 ctx FY (uV D1) (f:=11) (n:=1000) awM (by exact MO)
 intro args s r hr
 unfold AY at hr
 split at hr
 ·cases hr
  exact h [] s _ rfl
 ·cases hr
noncomputable def O:bj:=CV (base++[(11,AY)])
theorem Qo:pc Try.prog O:=uV fun p hp=>by
 rcases List.mem_append.mp hp with h|h
 ·exact D1 p h
 ·exact CS Qu p h
end Go.Proofs.Ytofohkdkpbigiaa
end
section
namespace Go.Proofs.Ytofohkdkpbigiaa
open Go.Am
set_option maxRecDepth 10000
set_option maxHeartbeats 1000000
set_option linter.unusedSimpArgs false
def gm (n:Nat):Nat:=if 60000<n then 60000 else n
def gK (k:Str):Nat:=1+gm k.len
def gR (r:Str×Str):Nat:=1+gm r.1.len+gm r.2.len
def gW (r:Str×Str×Bool):Nat:=1+gm r.1.len+gm r.2.1.len
def gV (v:Vl):Nat:=1+gm v.s.len
def gQ (r:List Vl):Nat:=1+(r.map gV).sum
def gS1 (c:Cmd):Nat:=(c.keys.map gK).sum
def gS2 (c:Cmd):Nat:=gS1 c+(c.ranges.map gR).sum
def gS3 (c:Cmd):Nat:=gS2 c+(c.writes.map gW).sum
def gS4 (c:Cmd):Nat:=gS3 c+(c.rows.map gQ).sum
theorem yW (n:Nat):(if(60000:Int)<(n:Int) then(60000:Int) else(n:Int))=((gm n:Nat):Int):=by
 unfold gm
 by_cases h:60000<n
 ·rw[if_pos h,if_pos (by omega)];rfl
 ·rw[if_neg h,if_neg (by omega)]
theorem yI (n:Nat):gm n≤60000:=by unfold gm;split<;>omega
theorem pj {α:Type}{f:α→Nat}{l:List α}{i:Nat}{q:α}(h:l[i]? =some q):((l.take (i+1)).map f).sum=((l.take i).map f).sum+f q:=by
 rw[List.take_add_one,h];simp
section
variable {O:bj}
theorem IL:X.fns.get 12=some Try.f12:=by kernel_rfl
theorem CF (ho:O 12=none){s:St}{c:Cmd}{z:CL}(hk:Sli s z.k 1 (c.keys.map kr))(hr:Sli s z.r 2 (c.ranges.map pr))(hw:Sli s z.w 3 (c.writes.map wrt)){Z:Nat→Prop}(hx:oP s Z z.x c.rows):
  Ca X O (.fn 12) [.agg (bY c z)] s fun r=>∃b s',r= .ret (.bool b) s'∧Am.Mod No s s'∧(b=false→gS4 c≤60000∧c.text.len≤60000):=by
 obtain⟨vs,hs,_,hall⟩:=hx.ex
 have hvl:=hall.len
 obtain⟨ax,cx,xx,ex,_⟩:=hs.ex
 rw[List.length_map,hvl] at ex
 obtain⟨ak,ck,xk,ek,_⟩:=hk.ex
 obtain⟨ar,cr,xr,er,_⟩:=hr.ex
 obtain⟨aw,cw,xw,ew,_⟩:=hw.ex
 rw[List.length_map] at ek er ew
 refine bb ho IL rfl ?_
 unfold aD aD
 have hone:aX (bY c z)=true:=by simp only[bY,ek,er,ew,ex];rfl
 refine fO ?_;refine ad (by simp(disch:=omega) only[uB,uT,cX (cs:=bY c z) hone];exact rfl) ?_;refine dR ?_;refine cJ ?_
 refine eE fun s1 hn1 hm1 hb1=>?_
 have lk4:aO X 36 (.ptr (some (s.nx,4))) s1=some (.old (.slc ak c.keys.length ck xk)):=by rw[←ek];exact hb1.ld (i:=4) rfl dS rfl fV
 have lk5:aO X 37 (.ptr (some (s.nx,5))) s1=some (.old (.slc ar c.ranges.length cr xr)):=by rw[←er];exact hb1.ld (i:=5) rfl eP rfl fY
 have lk6:aO X 35 (.ptr (some (s.nx,6))) s1=some (.old (.slc aw c.writes.length cw xw)):=by rw[←ew];exact hb1.ld (i:=6) rfl ct rfl fW
 have lk12:aO X 38 (.ptr (some (s.nx,12))) s1=some (.old (.slc ax c.rows.length cx xx)):=by rw[←ex];exact hb1.ld (i:=12) rfl eO rfl jt
 have lk10:aO X 9 (.ptr (some (s.nx,10))) s1=some (.old (.str c.text)):=hb1.ld (i:=10) rfl aE rfl aF
 have hk1:=hk.mod hm1 (fun _ _ h=>h)
 have hr1:=hr.mod hm1 (fun _ _ h=>h)
 have hw1:=hw.mod hm1 (fun _ _ h=>h)
 have hs1:=hs.mod hm1 (fun _ _ h=>h)
 rw[ek] at hk1
 rw[er] at hr1
 rw[ew] at hw1
 rw[ex] at hs1
 refine fO ?_;refine ad (by simp(disch:=omega) only[uB,uT];exact rfl) ?_;refine dR ?_;refine cJ ?_
 refine fP (fun L s'=>s1=s'∧∃n:Nat,n≤200000∧(n≤60000→n=gS1 c)∧L=[(1, .ptr (some (s.nx,0))),(2, .bool false),(3, .int .i64 (n:Int))]) ?_ ?_
 ·refine uG ?_
  let I:Nat→Sl→St→Prop:=fun i L s'=>s1=s'∧i≤c.keys.length∧∃n:Nat,n≤200000∧i≤n+0∧(n≤60000→n=0+((c.keys.take i).map gK).sum)∧L=[(1, .ptr (some (s.nx,0))),(2, .bool false),(3, .int .i64 (n:Int)),(4, .int .i64 (i:Int))]
  refine WL.less (M:=[(1, .ptr (some (s.nx,0))),(2, .bool false),(3, .int .i64 ((0:Nat):Int)),(4, .int .i64 ((0:Nat):Int))]) ?_ rfl
  refine aV I (fun i=>c.keys.length- i) ?_ c.keys.length 0 _ s1 (by simp) ⟨rfl,Nat.zero_le _,0,by decide,Nat.zero_le _,fun _=>rfl,rfl⟩
  rintro i L _ ⟨rfl,hi,n,hn,hin,hp,rfl⟩
  cases h1:decide ((i:Int)<(c.keys.length:Int)) with
  |false=>
   have hi2:i=c.keys.length:=by simp at h1;omega
   repeat(first|refine uS ?_ |refine aa rfl ?_ |refine ad (by simp(disch:=omega) only[uB,uT,lh,Nat.zero_add,lk4,h1,aP];exact rfl) ?_)
   refine uJ [1,2,3,4,17] ?_
   refine ae rfl rfl (fun hc=>?_) (fun hc=>?_)
   ·cases hc
   ·refine uG ?_
    exact cG [(1, .ptr (some (s.nx,0))),(2, .bool false),(3, .int .i64 (n:Int))] ⟨rfl,n,hn,fun h=>by rw[hp h,hi2,List.take_length];exact Nat.zero_add _,rfl⟩ (by simp[aI,az])
  |true=>
   have hi2:i<c.keys.length:=by simpa using h1
   repeat(first|refine uS ?_ |refine aa rfl ?_ |refine ad (by simp(disch:=omega) only[uB,uT,lh,Nat.zero_add,lk4,h1];exact rfl) ?_)
   refine uJ [1,2,3,4,17] ?_
   refine ae rfl rfl (fun hc=>?_) (fun hc=>?_)
   ·have hc2:n≤60000:=by simp at hc;omega
    obtain⟨q,hq⟩:∃q,c.keys[i]? =some q:=⟨_,List.getElem?_eq_getElem hi2⟩
    obtain⟨b5,off5,c5,x5,t5,n5,e5,_,k2,k3⟩:=hk1.at (i:=i) (r:=kr q) (by simp[hq])
    rw[List.length_map] at e5
    cases e5
    have p1:=ah (X:=X) aE rfl aF k2 (eS k3)
    have e1:(n:Int)+1+((gm q.len:Nat):Int)=((n+gK q:Nat):Int):=by unfold gK;omega
    have hg:=yI q.len
    have hgq:gK q≤120001∧1≤gK q:=by unfold gK;omega
    repeat(first|refine uS ?_ |refine aa rfl ?_ |refine ad (by simp(disch:=omega) only[uB,uT,lh,Nat.zero_add,lk4,aQ dS aF,p1,Int.toNat_natCast,aJ aE,yW,e1];exact rfl) ?_)
    exact aH (i+1) [(1, .ptr (some (s.nx,0))),(2, .bool false),(3, .int .i64 ((n+gK q:Nat):Int)),(4, .int .i64 ((i+1:Nat):Int))] ⟨rfl,by omega,n+gK q,by omega,by omega,fun _=>by rw[pj hq,←Nat.add_assoc,←hp hc2],rfl⟩ (by show c.keys.length- (i+1)<c.keys.length- i;omega) (by simp[aI,az])
   ·have hc2:¬n≤60000:=by simp at hc;omega
    refine uG ?_
    exact cG [(1, .ptr (some (s.nx,0))),(2, .bool false),(3, .int .i64 (n:Int))] ⟨rfl,n,hn,fun h=>absurd h hc2,rfl⟩ (by simp[aI,az])
 ·rintro L _ ⟨rfl,n0,hn0,hp0,rfl⟩
  refine fP (fun L s'=>s1=s'∧∃n:Nat,n≤200000∧(n≤60000→n=gS2 c)∧L=[(1, .ptr (some (s.nx,0))),(2, .bool false),(3, .int .i64 (n:Int))]) ?_ ?_
  ·refine uG ?_
   let I:Nat→Sl→St→Prop:=fun i L s'=>s1=s'∧i≤c.ranges.length∧∃n:Nat,n≤200000∧i≤n+0∧(n≤60000→n=gS1 c+((c.ranges.take i).map gR).sum)∧L=[(1, .ptr (some (s.nx,0))),(2, .bool false),(3, .int .i64 (n:Int)),(5, .int .i64 (i:Int))]
   refine WL.less (M:=[(1, .ptr (some (s.nx,0))),(2, .bool false),(3, .int .i64 (n0:Int)),(5, .int .i64 ((0:Nat):Int))]) ?_ rfl
   refine aV I (fun i=>c.ranges.length- i) ?_ c.ranges.length 0 _ s1 (by simp) ⟨rfl,Nat.zero_le _,n0,hn0,Nat.zero_le _,hp0,rfl⟩
   rintro i L _ ⟨rfl,hi,n,hn,hin,hp,rfl⟩
   cases h1:decide ((i:Int)<(c.ranges.length:Int)) with
   |false=>
    have hi2:i=c.ranges.length:=by simp at h1;omega
    repeat(first|refine uS ?_ |refine aa rfl ?_ |refine ad (by simp(disch:=omega) only[uB,uT,jY,Nat.zero_add,lk5,h1,aP];exact rfl) ?_)
    refine uJ [1,2,3,5,38] ?_
    refine ae rfl rfl (fun hc=>?_) (fun hc=>?_)
    ·cases hc
    ·refine uG ?_
     exact cG [(1, .ptr (some (s.nx,0))),(2, .bool false),(3, .int .i64 (n:Int))] ⟨rfl,n,hn,fun h=>by rw[hp h,hi2,List.take_length];rfl,rfl⟩ (by simp[aI,az])
   |true=>
    have hi2:i<c.ranges.length:=by simpa using h1
    repeat(first|refine uS ?_ |refine aa rfl ?_ |refine ad (by simp(disch:=omega) only[uB,uT,jY,Nat.zero_add,lk5,h1];exact rfl) ?_)
    refine uJ [1,2,3,5,38] ?_
    refine ae rfl rfl (fun hc=>?_) (fun hc=>?_)
    ·have hc2:n≤60000:=by simp at hc;omega
     obtain⟨q,hq⟩:∃q,c.ranges[i]? =some q:=⟨_,List.getElem?_eq_getElem hi2⟩
     obtain⟨b5,off5,c5,x5,t5,n5,e5,_,k2,k3⟩:=hr1.at (i:=i) (r:=pr q) (by simp[hq])
     rw[List.length_map] at e5
     cases e5
     have k4:=(aR.mp k3).2
     have k40:t5.get (off5+i*2)=some (.str q.1):=by simpa using k4 0 _ rfl
     have k41:t5.get (off5+i*2+1)=some (.str q.2):=k4 1 _ rfl
     have p1:=ah (X:=X) aE rfl aF k2 k40
     have p2:=ah (X:=X) aE rfl aF k2 k41
     have e1:(n:Int)+1+((gm q.1.len:Nat):Int)+((gm q.2.len:Nat):Int)=((n+gR q:Nat):Int):=by unfold gR;omega
     have hg:=yI q.1.len
     have hg2:=yI q.2.len
     have hgq:gR q≤120001∧1≤gR q:=by unfold gR;omega
     refine uH ?_
     refine aU [(0,none),(1,none),(2,none),(3,none),(4,none),(5,none),(6,none),(7,none),(8,none),(9,none),(10,none),(11,none),(12,none),(13,none),(14,none),(15,none),(16,none),(17,none),(18,none),(19,none),(20,some [false,false,false,false,false,false,false,false,false,false,false,false,false,false,false,false,false,false,false,false])] (by kernel_rfl) (by kernel_rfl) (by simp(disch:=omega) only[uB,uT,Nat.reduceEqDiff,↓reduceIte,uD,mask,aC,aB,jY,tW,tR,Nat.zero_add,lk5,aQ eP fQ,p1,p2,Int.toNat_natCast,aJ aE,yW,e1];exact rfl) ?_
     refine uG ?_
     exact aH (i+1) [(1, .ptr (some (s.nx,0))),(2, .bool false),(3, .int .i64 ((n+gR q:Nat):Int)),(5, .int .i64 ((i+1:Nat):Int))] ⟨rfl,by omega,n+gR q,by omega,by omega,fun _=>by rw[pj hq,←Nat.add_assoc,←hp hc2],rfl⟩ (by show c.ranges.length- (i+1)<c.ranges.length- i;omega) (by simp[aI,az])
    ·have hc2:¬n≤60000:=by simp at hc;omega
     refine uG ?_
     exact cG [(1, .ptr (some (s.nx,0))),(2, .bool false),(3, .int .i64 (n:Int))] ⟨rfl,n,hn,fun h=>absurd h hc2,rfl⟩ (by simp[aI,az])
  ·rintro L _ ⟨rfl,n0,hn0,hp0,rfl⟩
   refine fP (fun L s'=>s1=s'∧∃n:Nat,n≤200000∧(n≤60000→n=gS3 c)∧L=[(1, .ptr (some (s.nx,0))),(2, .bool false),(3, .int .i64 (n:Int))]) ?_ ?_
   ·refine uG ?_
    let I:Nat→Sl→St→Prop:=fun i L s'=>s1=s'∧i≤c.writes.length∧∃n:Nat,n≤200000∧i≤n+0∧(n≤60000→n=gS2 c+((c.writes.take i).map gW).sum)∧L=[(1, .ptr (some (s.nx,0))),(2, .bool false),(3, .int .i64 (n:Int)),(6, .int .i64 (i:Int))]
    refine WL.less (M:=[(1, .ptr (some (s.nx,0))),(2, .bool false),(3, .int .i64 (n0:Int)),(6, .int .i64 ((0:Nat):Int))]) ?_ rfl
    refine aV I (fun i=>c.writes.length- i) ?_ c.writes.length 0 _ s1 (by simp) ⟨rfl,Nat.zero_le _,n0,hn0,Nat.zero_le _,hp0,rfl⟩
    rintro i L _ ⟨rfl,hi,n,hn,hin,hp,rfl⟩
    cases h1:decide ((i:Int)<(c.writes.length:Int)) with
    |false=>
     have hi2:i=c.writes.length:=by simp at h1;omega
     repeat(first|refine uS ?_ |refine aa rfl ?_ |refine ad (by simp(disch:=omega) only[uB,uT,gS,Nat.zero_add,lk6,h1,aP];exact rfl) ?_)
     refine uJ [1,2,3,6,69] ?_
     refine ae rfl rfl (fun hc=>?_) (fun hc=>?_)
     ·cases hc
     ·refine uG ?_
      exact cG [(1, .ptr (some (s.nx,0))),(2, .bool false),(3, .int .i64 (n:Int))] ⟨rfl,n,hn,fun h=>by rw[hp h,hi2,List.take_length];rfl,rfl⟩ (by simp[aI,az])
    |true=>
     have hi2:i<c.writes.length:=by simpa using h1
     repeat(first|refine uS ?_ |refine aa rfl ?_ |refine ad (by simp(disch:=omega) only[uB,uT,gS,Nat.zero_add,lk6,h1];exact rfl) ?_)
     refine uJ [1,2,3,6,69] ?_
     refine ae rfl rfl (fun hc=>?_) (fun hc=>?_)
     ·have hc2:n≤60000:=by simp at hc;omega
      obtain⟨q,hq⟩:∃q,c.writes[i]? =some q:=⟨_,List.getElem?_eq_getElem hi2⟩
      obtain⟨b5,off5,c5,x5,t5,n5,e5,_,k2,k3⟩:=hw1.at (i:=i) (r:=wrt q) (by simp[hq])
      rw[List.length_map] at e5
      cases e5
      have k4:=(aR.mp k3).2
      have k40:t5.get (off5+i*3)=some (.str q.1):=by simpa using k4 0 _ rfl
      have k41:t5.get (off5+i*3+1)=some (.str q.2.1):=k4 1 _ rfl
      have p1:=ah (X:=X) aE rfl aF k2 k40
      have p2:=ah (X:=X) aE rfl aF k2 k41
      have e1:(n:Int)+1+((gm q.1.len:Nat):Int)+((gm q.2.1.len:Nat):Int)=((n+gW q:Nat):Int):=by unfold gW;omega
      have hg:=yI q.1.len
      have hg2:=yI q.2.1.len
      have hgq:gW q≤120001∧1≤gW q:=by unfold gW;omega
      refine uH ?_
      refine aU [(0,none),(1,none),(2,none),(3,none),(4,none),(5,none),(6,none),(7,none),(8,none),(9,none),(10,none),(11,none),(12,none),(13,none),(14,none),(15,none),(16,none),(17,none),(18,none),(19,none),(20,some [false,false,false,false,false,false,false,false,false,false,false,false,false,false,false,false,false,false,false,false])] (by kernel_rfl) (by kernel_rfl) (by simp(disch:=omega) only[uB,uT,Nat.reduceEqDiff,↓reduceIte,uD,mask,aC,aB,gS,iD,kj,Nat.zero_add,lk6,aQ ct bT,p1,p2,Int.toNat_natCast,aJ aE,yW,e1];exact rfl) ?_
      refine uG ?_
      exact aH (i+1) [(1, .ptr (some (s.nx,0))),(2, .bool false),(3, .int .i64 ((n+gW q:Nat):Int)),(6, .int .i64 ((i+1:Nat):Int))] ⟨rfl,by omega,n+gW q,by omega,by omega,fun _=>by rw[pj hq,←Nat.add_assoc,←hp hc2],rfl⟩ (by show c.writes.length- (i+1)<c.writes.length- i;omega) (by simp[aI,az])
     ·have hc2:¬n≤60000:=by simp at hc;omega
      refine uG ?_
      exact cG [(1, .ptr (some (s.nx,0))),(2, .bool false),(3, .int .i64 (n:Int))] ⟨rfl,n,hn,fun h=>absurd h hc2,rfl⟩ (by simp[aI,az])
   ·rintro L _ ⟨rfl,n0,hn0,hp0,rfl⟩
    refine fP (fun L s'=>s1=s'∧∃n:Nat,n≤200000∧(n≤60000→n=gS4 c)∧L=[(1, .ptr (some (s.nx,0))),(2, .bool false),(3, .int .i64 (n:Int))]) ?_ ?_
    ·refine uG ?_
     let I:Nat→Sl→St→Prop:=fun i L s'=>s1=s'∧i≤c.rows.length∧∃n:Nat,n≤200000∧i≤n∧(n≤60000→n=gS3 c+((c.rows.take i).map gQ).sum)∧L=[(1, .ptr (some (s.nx,0))),(2, .bool false),(3, .int .i64 (n:Int)),(7, .int .i64 (i:Int))]
     refine WL.less (M:=[(1, .ptr (some (s.nx,0))),(2, .bool false),(3, .int .i64 (n0:Int)),(7, .int .i64 ((0:Nat):Int))]) ?_ rfl
     refine aV I (fun i=>c.rows.length- i) ?_ c.rows.length 0 _ s1 (by simp) ⟨rfl,Nat.zero_le _,n0,hn0,Nat.zero_le _,hp0,rfl⟩
     rintro i L _ ⟨rfl,hi,n,hn,hin,hp,rfl⟩
     cases h1:decide ((i:Int)<(c.rows.length:Int)) with
     |false=>
      have hi2:i=c.rows.length:=by simp at h1;omega
      repeat(first|refine uS ?_ |refine aa rfl ?_ |refine ad (by simp(disch:=omega) only[uB,uT,dI,Nat.zero_add,lk12,h1,aP];exact rfl) ?_)
      refine uJ [1,2,3,7,100] ?_
      refine ae rfl rfl (fun hc=>?_) (fun hc=>?_)
      ·cases hc
      ·refine uG ?_
       exact cG [(1, .ptr (some (s.nx,0))),(2, .bool false),(3, .int .i64 (n:Int))] ⟨rfl,n,hn,fun h=>by rw[hp h,hi2,List.take_length];rfl,rfl⟩ (by simp[aI,az])
     |true=>
      have hi2:i<c.rows.length:=by simpa using h1
      repeat(first|refine uS ?_ |refine aa rfl ?_ |refine ad (by simp(disch:=omega) only[uB,uT,dI,Nat.zero_add,lk12,h1];exact rfl) ?_)
      refine uJ [1,2,3,7,100] ?_
      refine ae rfl rfl (fun hc=>?_) (fun hc=>?_)
      ·have hc2:n≤60000:=by simp at hc;omega
       obtain⟨q,hq⟩:∃q,c.rows[i]? =some q:=⟨_,List.getElem?_eq_getElem hi2⟩
       obtain⟨v,hv,hws,_⟩:=pV hall hq
       have hws1:=hws.mod hm1 (fun _ _ h=>h)
       obtain⟨b5,off5,c5,x5,t5,n5,e5,_,k2,k3⟩:=hs1.at (i:=i) (r:=[v]) (by rw[List.getElem?_map,hv];rfl)
       rw[List.length_map,hvl] at e5
       cases e5
       have k4:=eS k3
       obtain⟨awq,cwq,xwq,rfl,_⟩:=hws.ex
       rw[List.length_map] at k4 hws1
       rw[Nat.mul_one] at k4
       have lrow:aO X 74 (.ptr (some (b5,off5+i))) s1=some (.old (.slc awq q.length cwq xwq)):=ah iA rfl ey k2 k4
       refine oC ?_
       refine cJ ?_
       refine fP (fun L s'=>s1=s'∧∃m:Nat,m≤200000∧i+1≤m∧(m≤60000→m=n+gQ q)∧L=[(1, .ptr (some (s.nx,0))),(2, .bool false),(3, .int .i64 (m:Int)),(7, .int .i64 (i:Int))]) ?_ ?_
       ·refine uG ?_
        let J:Nat→Sl→St→Prop:=fun k L s'=>s1=s'∧k≤q.length∧∃m:Nat,m≤200000∧k+i+1≤m∧(m≤60000→m=n+(1+((q.take k).map gV).sum))∧L=[(1, .ptr (some (s.nx,0))),(2, .bool false),(3, .int .i64 (m:Int)),(7, .int .i64 (i:Int)),(8, .int .i64 (k:Int))]
        refine WL.less (M:=[(1, .ptr (some (s.nx,0))),(2, .bool false),(3, .int .i64 ((n+1:Nat):Int)),(7, .int .i64 (i:Int)),(8, .int .i64 ((0:Nat):Int))]) ?_ rfl
        refine aV J (fun k=>q.length- k) ?_ q.length 0 _ s1 (by simp) ⟨rfl,Nat.zero_le _,n+1,by omega,by omega,fun _=>rfl,rfl⟩
        rintro k L _ ⟨rfl,hk2,m,hm,hkm,hpm,rfl⟩
        cases h2:decide ((k:Int)<(q.length:Int)) with
        |false=>
         have hk3:k=q.length:=by simp at h2;omega
         repeat(first|refine uS ?_ |refine aa rfl ?_ |refine ad (by simp(disch:=omega) only[uB,uT,dI,Nat.zero_add,lk12,aQ eO ey,Nat.mul_one,lrow,Int.toNat_natCast,h2,aP];exact rfl) ?_)
         refine uJ [1,2,3,7,8,116] ?_
         refine ae rfl rfl (fun hc=>?_) (fun hc=>?_)
         ·cases hc
         ·refine uG ?_
          exact cG [(1, .ptr (some (s.nx,0))),(2, .bool false),(3, .int .i64 (m:Int)),(7, .int .i64 (i:Int))] ⟨rfl,m,hm,by omega,fun h=>by rw[hpm h,hk3,List.take_length];rfl,rfl⟩ (by simp[aI,az])
        |true=>
         have hk3:k<q.length:=by simpa using h2
         repeat(first|refine uS ?_ |refine aa rfl ?_ |refine ad (by simp(disch:=omega) only[uB,uT,dI,Nat.zero_add,lk12,aQ eO ey,Nat.mul_one,lrow,Int.toNat_natCast,h2];exact rfl) ?_)
         refine uJ [1,2,3,7,8,116] ?_
         refine ae rfl rfl (fun hc=>?_) (fun hc=>?_)
         ·have hm2:m≤60000:=by simp at hc;omega
          obtain⟨u,hu⟩:∃u,q[k]? =some u:=⟨_,List.getElem?_eq_getElem hk3⟩
          obtain⟨b6,off6,c6,x6,t6,n6,e6,_,j2,j3⟩:=hws1.at (i:=k) (r:=vl u) (by rw[List.getElem?_map,hu];rfl)
          rw[List.length_map] at e6
          cases e6
          have p3:=ah (X:=X) aE rfl aF j2 ((aR.mp j3).2 3 _ rfl)
          have e1:(m:Int)+1+((gm u.s.len:Nat):Int)=((m+gV u:Nat):Int):=by unfold gV;omega
          have hg:=yI u.s.len
          have hgq:gV u≤60001∧1≤gV u:=by unfold gV;omega
          repeat(first|refine uS ?_ |refine aa rfl ?_ |refine ad (by simp(disch:=omega) only[uB,uT,dI,eQ,Nat.zero_add,lk12,aQ eO ey,Nat.mul_one,lrow,Int.toNat_natCast,aQ iA dH,p3,aJ aE,yW,e1];exact rfl) ?_)
          exact aH (k+1) [(1, .ptr (some (s.nx,0))),(2, .bool false),(3, .int .i64 ((m+gV u:Nat):Int)),(7, .int .i64 (i:Int)),(8, .int .i64 ((k+1:Nat):Int))] ⟨rfl,by omega,m+gV u,by omega,by omega,fun _=>by rw[pj hu,←Nat.add_assoc,←Nat.add_assoc,Nat.add_assoc n 1,←hpm hm2],rfl⟩ (by show q.length- (k+1)<q.length- k;omega) (by simp[aI,az])
         ·have hm2:¬m≤60000:=by simp at hc;omega
          refine uG ?_
          exact cG [(1, .ptr (some (s.nx,0))),(2, .bool false),(3, .int .i64 (m:Int)),(7, .int .i64 (i:Int))] ⟨rfl,m,hm,by omega,fun h=>absurd h hm2,rfl⟩ (by simp[aI,az])
       ·rintro L _ ⟨rfl,m,hm,him,hpm,rfl⟩
        refine uG ?_
        exact aH (i+1) [(1, .ptr (some (s.nx,0))),(2, .bool false),(3, .int .i64 (m:Int)),(7, .int .i64 ((i+1:Nat):Int))] ⟨rfl,by omega,m,hm,him,fun h=>by rw[hpm h,pj hq,←Nat.add_assoc,←hp hc2],rfl⟩ (by show c.rows.length- (i+1)<c.rows.length- i;omega) (by simp[aI,az])
      ·have hc2:¬n≤60000:=by simp at hc;omega
       refine uG ?_
       exact cG [(1, .ptr (some (s.nx,0))),(2, .bool false),(3, .int .i64 (n:Int))] ⟨rfl,n,hn,fun h=>absurd h hc2,rfl⟩ (by simp[aI,az])
    ·rintro L _ ⟨rfl,n,hn,hp,rfl⟩
     cases h1:decide ((60000:Int)<(n:Int)) with
     |true=>
      repeat(first|refine uS ?_ |refine aa rfl ?_ |refine ad (by simp(disch:=omega) only[uB,uT,h1,aP];exact rfl) ?_)
      refine ai rfl ?_
      exact⟨true,s1,rfl,hm1,fun h=>by cases h⟩
     |false=>
      have h2:n≤60000:=by simp at h1;omega
      repeat(first|refine uS ?_ |refine aa rfl ?_ |refine ad (by simp(disch:=omega) only[uB,uT,h1,ie,Nat.zero_add,lk10,aJ aE];exact rfl) ?_)
      refine ai rfl ?_
      exact⟨_,s1,rfl,hm1,fun h=>⟨by rw[←hp h2];exact h2,by simp at h;omega⟩⟩
end
end Go.Proofs.Ytofohkdkpbigiaa
end
