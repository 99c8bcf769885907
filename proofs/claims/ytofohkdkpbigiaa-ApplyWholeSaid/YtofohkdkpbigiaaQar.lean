/-
  A part of the texts.
-/
import Derived.Test.YtofohkdkpbigiaaQaq
section
namespace Go.Am
def bR (b:Nat):List AV:=[bA b]
structure Buf (s:St)(v:AV)(S:Str):Prop where
 ex:∃l,okB l∧ic l=S∧Acc s v 1 (l.map bR)
theorem KE {n:Nat}:(bA n).same (bA n)=true:=pb
theorem vc (l:List Nat):(l.map bR).flatten=l.map bA:=by
 induction l with
 |nil=>rfl
 |cons b l ih=>simp only[List.map_cons,List.flatten_cons,ih];rfl
theorem FQ (l:List Nat):aX (l.map bA)=true:=by
 induction l with
 |nil=>rfl
 |cons b l ih=>simp only[List.map_cons,aX,ih];rfl
theorem Buf.nil {s:St}:Buf s (.slc none 0 0 true) bu:=⟨[],fun _ h=>(by cases h),rfl,Acc.nil⟩
theorem Buf.mod {B:Nat→Prop}{s t:St}{v:AV}{S:Str}(h:Buf s v S)(hm:Mod B s t)(hb:∀b,blk v=some b→¬B b):Buf t v S:=
 let⟨l,h1,h2,h3⟩:=h.ex;⟨l,h1,h2,h3.mod hm hb⟩
theorem Buf.ok {s:St}{v:AV}{S:Str}(h:Buf s v S):S.ok:=let⟨_,h1,h2,_⟩:=h.ex;h2▸zO h1
theorem Buf.lt {s:St}{v:AV}{S:Str}(h:Buf s v S){b:Nat}(hb:blk v=some b):b<s.nx:=let⟨_,_,_,h3⟩:=h.ex;h3.lt hb
theorem Buf.slc {s:St}{v:AV}{S:Str}(h:Buf s v S):∃a c x,v= .slc a S.len c x:=by
 obtain⟨l,h1,h2,h3⟩:=h.ex
 obtain⟨a,c,x,e,_⟩:=h3.sli.ex
 refine⟨a,c,x,?_⟩
 rw[e,←h2,j9,List.length_map]
section
variable {X:Ctx}
theorem Buf.app {t elem:TypeId}{s:St}{x y:AV}{S:Str}{new:List Nat}(h:Buf s x S)(hu:X.und t=some (.slice elem))(he:X.elem elem=some 1)(hy:aZ s 1 y=some (new.length,new.map bA))(hok:okB new)(hn:new≠[])(hl:S.len+new.length≤1000000):
  ∃v s',cN X t x y s=some (.val v s')∧Buf s' v (S.cat (ic new))∧Mod (fun b=>blk x=some b) s s'∧blk v=some s.nx:=by
 obtain⟨l,h1,h2,h3⟩:=h.ex
 have hlen:S.len=l.length:=by rw[←h2,j9]
 obtain⟨v,s',e1,e2,e3,e4⟩:=gG (new:=new.map bR) hu he h3 (by rw[vc,List.length_map];exact hy) (fun r hr=>by obtain⟨b,_,rfl⟩:=List.mem_map.mp hr;rfl) (by simpa using hn) (by rw[vc];exact FQ _) (by simp only[List.length_map];omega)
 refine⟨v,s',e1,⟨l++new,fun b hb=>(List.mem_append.mp hb).elim (h1 b) (hok b),by rw[pF,h2],by rw[List.map_append];exact e2⟩,e3,e4⟩
theorem Buf.src {s:St}{v:AV}{S:Str}(h:Buf s v S):∃l,okB l∧ic l=S∧aZ s 1 v=some (l.length,l.map bA):=by
 obtain⟨l,h1,h2,h3⟩:=h.ex
 refine⟨l,h1,h2,?_⟩
 have:=h3.sli.src
 rw[vc,List.length_map] at this;exact this
theorem Af {s:St}{v:Str}:aZ s 1 (.str v)=some ((bl v).length,(bl v).map bA):=by
 simp only[aZ,show Nat.beq 1 1=true from rfl,vA,zX]
theorem Buf.str {a b:TypeId}{e:TypeId}{s:St}{v:AV}{S:Str}(h:Buf s v S)(hu:X.und a=some (.slice e))(hb:X.und b=some .string)(he:X.und e=some (.int .u8)):bH X a b v s=some (.pure (.str S)):=by
 obtain⟨l,h1,h2,h3⟩:=h.src
 obtain⟨p,c,x,e1⟩:=h.slc
 subst e1
 have h4:aZ s 1 (.slc p S.len S.len false)=some (l.length,l.map bA):=by
  rw[←h3];cases p<;>rfl
 simp only[bH,hu,hb,pN,he,h4,yk h1,h2]
theorem MZ {t:TypeId}{c:Bool}{v i:Nat}(h:i≤7):aW X .shr t c (.int .u64 (v:Int)) (.int .i64 (8*(7- (i:Int))))=some (.int .u64 ((v/256^ (7- i):Nat):Int)):=by
 have h1:¬(8*(7- (i:Int))<0):=by omega
 have h2:(8*(7- (i:Int))).toNat=8*(7- i):=by omega
 have h3:min (8*(7- i)) IntKind.u64.bits=8*(7- i):=by show min _ 64=_;omega
 have h4:(2:Int)^ (8*(7- i))=((256^ (7- i):Nat):Int):=by
  have:(256:Nat)^ (7- i)=2^ (8*(7- i)):=by rw[Nat.pow_mul]
  rw[this,Int.natCast_pow];rfl
 simp only[aW,gh,oM,if_neg h1,h2,h3,h4]
 congr 2
 rw[Int.fdiv_eq_ediv_of_nonneg _ (Int.natCast_nonneg _)]
 exact(Int.natCast_ediv v _).symm
theorem D7 {a b:TypeId}{d:TypeDesc}{k:IntKind}{s:St}{n:Nat}(hu:X.und a=some d)(hb:X.und b=some (.int .u8)):bH X a b (.int k (n:Int)) s=some (.pure (bA (n % 256))):=by
 simp only[bH,hu,hb,zv,bA]
 simp[IntKind.wrap,IntKind.bits,IntKind.signed]
end
end Go.Am
namespace Go.Am
def Str.app (S:Str)(l:List Str):Str:=l.foldl Str.cat S
theorem Jp (S a:Str)(l:List Str):S.app (a::l)=(S.cat a).app l:=rfl
theorem bw (S:Str)(a b:List Str):S.app (a++b)=(S.app a).app b:=List.foldl_append
theorem Jf (S:Str)(l:List Str)(a:Str):S.app (l++[a])=(S.app l).cat a:=by rw[bw];rfl
def aM (l:List Str):Nat:=(l.map Str.len).sum
theorem Ja:aM []=0:=rfl
theorem bL (a:Str)(l:List Str):aM (a::l)=a.len+aM l:=by simp[aM]
theorem aA (a b:List Str):aM (a++b)=aM a+aM b:=by simp[aM]
theorem bf (l:List Str):∀S:Str,(S.app l).len=S.len+aM l:=by
 induction l with
 |nil=>intro S;rfl
 |cons a l ih=>intro S;rw[Jp,ih,bL,jN];omega
theorem eW (l:List Int):aM (l.map aY)=8*l.length:=by
 induction l with
 |nil=>rfl
 |cons a l ih=>rw[List.map_cons,bL,ih,List.length_cons];show 8+_=_;omega
section
variable {X:Ctx}
theorem Cy {a b:TypeId}{d:TypeDesc}{k:IntKind}{s:St}{n:Int}(hu:X.und a=some d)(hb:X.und b=some (.int .u64)):bH X a b (.int k n) s=some (.pure (.int .u64 (u64 n:Int))):=by
 simp only[bH,hu,hb,zv,IK]
theorem ze {a b:TypeId}{d:TypeDesc}{k:IntKind}{s:St}{n:Nat}(hu:X.und a=some d)(hb:X.und b=some (.int .i64)):bH X a b (.int k (n:Int)) s=some (.pure (.int .i64 (i64 n))):=by
 simp only[bH,hu,hb,zv];rfl
end
end Go.Am
namespace Go.Am
section
variable {X:Ctx}
theorem Ia {t:TypeId}{s:St}{a:Str}{k:IntKind}{h:Int}(hu:X.und t=some .string)(h0:0≤h)(hh:h≤(a.len:Int)):cP X s t (.str a) none (some (.int k h)) none=some (.str (a.sub 0 h.toNat)):=by
 simp only[cP,hu,oQ,tZ,ob,uh,mf h0 hh,sw]
theorem KJ {t:TypeId}{s:St}{a:Str}{k:IntKind}{l:Int}(hu:X.und t=some .string)(h0:0≤l)(hh:l≤(a.len:Int)):cP X s t (.str a) (some (.int k l)) none none=some (.str (a.sub l.toNat a.len)):=by
 simp only[cP,hu,oQ,tZ,ob,uh,mf h0 hh,sw]
theorem lM {t:TypeId}{c:Bool}{k j:IntKind}{v m:Nat}(h:m≤k.bits):aW X .shr t c (.int k (v:Int)) (.int j (m:Int))=some (.int k ((v/2^m:Nat):Int)):=by
 have h1:¬((m:Int)<0):=by omega
 have h3:min m k.bits=m:=by omega
 have h4:(2:Int)^m=((2^m:Nat):Int):=by rw[Int.natCast_pow];rfl
 simp only[aW,gh,oM,if_neg h1,Int.toNat_natCast,h3,h4]
 congr 2
 rw[Int.fdiv_eq_ediv_of_nonneg _ (Int.natCast_nonneg _)]
 exact(Int.natCast_ediv v _).symm
end
end Go.Am
namespace Go.Am
section
variable {X:Ctx}
theorem Gv {a b e:TypeId}{v:Str}{s:St}(hu:X.und a=some .string)(hb:X.und b=some (.slice e))(he:X.und e=some (.int .u8))(hl:v.len≤1000000):bH X a b (.str v) s=some (.val (.slc (some (s.nx,0,1)) v.len v.len false) {s with h:=s.h.put s.nx (.cells (Tr.of ((bl v).map bA)) (v.len+iM)),nx:=s.nx+1}):=by
 simp only[bH,hu,hb,iI,he,Nat.ble_eq.mpr hl,iF,vA]
theorem Nr {t:TypeId}{c:Bool}{j:IntKind}{a:Nat}(h:a<72057594037927936):aW X .shl t c (.int .u64 (a:Int)) (.int j 8)=some (.int .u64 ((a*256:Nat):Int)):=by
 have h1:¬((8:Int)<0):=by decide
 have h3:min (8:Int).toNat IntKind.u64.bits=8:=by decide
 simp only[aW,gh,oM,if_neg h1,h3]
 have h4:(a:Int)*2^8=((a*256:Nat):Int):=by
  have:(2:Int)^8=256:=by decide
  rw[this];omega
 rw[h4,vV (Int.natCast_nonneg _) (by omega)]
theorem Pg {t:TypeId}{c:Bool}{a b:Nat}(h:a<72057594037927936)(hb:b<256):aW X .or t c (.int .u64 ((a*256:Nat):Int)) (.int .u64 (b:Int))=some (.int .u64 ((a*256+b:Nat):Int)):=by
 have e1:((((a*256:Nat):Int) % (2^IntKind.u64.bits:Int))).toNat=a*256:=by
  show((((a*256:Nat):Int) % 18446744073709551616)).toNat=_
  omega
 have e2:(((b:Int) % (2^IntKind.u64.bits:Int))).toNat=b:=by
  show(((b:Int) % 18446744073709551616)).toNat=_
  omega
 have e3:Nat.lor (a*256) b=a*256+b:=by
  have:=Nat.shiftLeft_add_eq_or_of_lt (i:=8) (b:=b) hb a
  rw[Nat.shiftLeft_eq] at this
  exact this.symm
 simp only[aW,gh,kM,bitsOf,e1,e2,e3,if_true]
 rw[vV (Int.natCast_nonneg _) (by omega)]
theorem Nv {a b:TypeId}{d:TypeDesc}{s:St}{n:Nat}(hu:X.und a=some d)(hb:X.und b=some (.int .u64))(hn:n<256):bH X a b (bA n) s=some (.pure (.int .u64 (n:Int))):=by
 simp only[bA,bH,hu,hb]
 rw[vV (Int.natCast_nonneg _) (by omega)]
end
theorem FK (l:List Nat)(b:Nat):ic (l++[b])=sB (ic l) b:=by unfold ic;rw[List.foldl_append];rfl
end Go.Am
namespace Go.Am
section
variable {X:Ctx}
theorem Bx.str {a b e:TypeId}{s:St}{p n c:Nat}{x:Bool}{l:List Nat}(h:Bx s p (l.map bA))(hl:okB l)(hn:l.length=n)(h0:n≠0)(hu:X.und a=some (.slice e))(hb:X.und b=some .string)(he:X.und e=some (.int .u8)):bH X a b (.slc (some (p,0,1)) n c x) s=some (.pure (.str (ic l))):=by
 obtain⟨t,m,h1,h2⟩:=h.ldL
 have h3:aZ s 1 (.slc (some (p,0,1)) n n false)=some (n,l.map bA):=by
  simp only[aZ,fv h1,Nat.mul_one]
  rw[List.length_map,hn] at h2
  rw[h2,A6 h0]
 simp only[bH,hu,hb,pN,he,h3,yk hl]
end
end Go.Am
end
section
namespace Go.Proofs.Ytofohkdkpbigiaa
open Go.Am
set_option maxRecDepth 10000
set_option maxHeartbeats 1000000
set_option linter.unusedSimpArgs false
structure Wri (s:St)(b:Nat)(H:Nat→Prop)(S:Str):Prop where
 ex:∃v,Bx s b [v]∧Buf s v S∧∀c,blk v=some c→H c∧c≠b
 own:H b
 lt:∀c,H c→c<s.nx
theorem Wri.mod {B:Nat→Prop}{s t:St}{b:Nat}{H:Nat→Prop}{S:Str}(h:Wri s b H S)(hm:Am.Mod B s t)(hb:∀c,H c→¬B c):Wri t b H S:=
 let⟨v,h1,h2,h3⟩:=h.ex;⟨⟨v,h1.mod hm (hb _ h.own),h2.mod hm fun c hc=>hb c (h3 c hc).1,h3⟩,h.own,fun c hc=>Nat.lt_of_lt_of_le (h.lt c hc) hm.nx⟩
theorem Wri.no {s t:St}{b:Nat}{H:Nat→Prop}{S:Str}(h:Wri s b H S)(hm:Am.Mod No s t):Wri t b H S:=h.mod hm (fun _ _ h=>h)
theorem Wri.ok {s:St}{b:Nat}{H:Nat→Prop}{S:Str}(h:Wri s b H S):S.ok:=let⟨_,_,h2,_⟩:=h.ex;h2.ok
def WP (s:St)(b:Nat)(H:Nat→Prop)(S:Str):CR→Prop:=fun r=>∃s' H',r= .ret (.tup []) s'∧Wri s' b H' S∧Am.Mod H s s'∧∀c,H' c→H c∨s.nx≤c
theorem fC {X:Ctx}{fn:Func}{L:Sl}{s:St}{Q:CR→Prop}(hr:fn.results.toList=[])(hQ:Q (.ret (.tup []) s)):Fin (tz X fn Q) .norm L [] s:=
 sG (l:=[]) (by rw[hr];rfl) hQ
theorem Ho {v i:Nat}(h:i<8):(be8 v).take (i+1)=(be8 v).take i++[v/256^ (7- i) % 256]:=by
 rw[List.take_add_one,be8,List.getElem?_map,List.getElem?_range h];rfl
section
variable {O:bj}
theorem JR:X.fns.get 82=some Try.f82:=by kernel_rfl
theorem Ky:X.fns.get 70=some Try.f70:=by kernel_rfl
theorem Lq:X.fns.get 71=some Try.f71:=by kernel_rfl
theorem D6 {b off:Nat}:af X 120 (.ptr (some (b,off))) 0=some (.pure (.ptr (some (b,off)))):=by
 simp only[af,zC,bh,List.getElem?_cons_zero,List.getElem?_cons_succ,cQ,Nat.add_zero]
theorem Ge {s:St}{n:Nat}:bB X 83 1 [(0,bA n)] s=some (.val (.slc (some (s.nx,0,1)) 1 1 true) {s with h:=s.h.put s.nx (.cells (Tr.of [bA n]) 1),nx:=s.nx+1}):=
 vS cM qN yP rfl
theorem Wri.next {s s1 s2:St}{b:Nat}{H:Nat→Prop}{S S':Str}{x v:AV}(h:Wri s b H S)(hx:∀c,blk x=some c→H c∧c≠b)(hm1:Am.Mod No s s1)(hm:Am.Mod (fun c=>blk x=some c) s1 s2)(hv:Buf s2 v S')(hb:blk v=some s1.nx)(ho:v.cells=[v])(ha:aX [v]=true){u:AV}(hu:Bx s b [u]):
  ∃s3,cK X 83 (.ptr (some (b,0))) v s2=some (.val (.tup []) s3)∧Wri s3 b (fun c=>H c∨c=s1.nx) S'∧Am.Mod H s s3:=by
 have hlt:=h.lt
 have hb0:=h.lt b h.own
 have n1:=hm1.nx
 have k2:=(hu.no hm1).mod hm (fun e=>(hx _ e).2 rfl)
 obtain⟨s3,e3,k3,hm3,n3⟩:=k2.stm (X:=X) (t:=83) (i:=0) (w:=v) rfl cQ ho ha
 have n2:=hm.nx
 have hlt2:s1.nx<s2.nx:=hv.lt hb
 refine⟨s3,e3,⟨⟨v,k3,hv.mod hm3 (fun c hc e=>?_),fun c hc=>?_⟩, .inl h.own,fun c hc=>?_⟩,?_⟩
 ·rw[hb] at hc;simp only[Option.some.injEq] at hc;omega
 ·rw[hb] at hc;simp only[Option.some.injEq] at hc;exact⟨.inr hc.symm,by omega⟩
 ·rcases hc with hc|rfl
  ·have:=hlt c hc;omega
  ·omega
 ·exact((hm1.mono (C:=H) (fun _ _ h=>h.elim)).trans hm (fun c _ e=>(hx c e).1)).trans hm3 (fun c _ e=>by subst e;exact h.own)
theorem yC (ho:O 82=none){s:St}{b:Nat}{H:Nat→Prop}{S:Str}(h:Wri s b H S)(htd:Tidy s)(hl:S.len+8≤1000000){v:Nat}(hv:v<18446744073709551616):
  Ca X O (.fn 82) [.ptr (some (b,0)), .int .u64 (v:Int)] s (WP s b H (S.cat (wd v))):=by
 refine bb ho JR rfl ?_
 unfold aD aD aD
 refine uG ?_
 let I:Nat→Sl→St→Prop:=fun i L s'=>(∃H',Wri s' b H' (S.cat (ic ((be8 v).take i)))∧∀c,H' c→H c∨s.nx≤c)∧Am.Mod H s s'∧i≤8∧L=[(0, .ptr (some (b,0))),(1, .int .u64 (v:Int)),(5, .int .i64 (i:Int))]
 refine WL.less (M:=[(0, .ptr (some (b,0))),(1, .int .u64 (v:Int)),(5, .int .i64 ((0:Nat):Int))]) ?_ rfl
 refine aV I (fun i=>8- i) ?_ 8 0 _ s (by simp) ⟨⟨H,by rw[List.take_zero];show Wri s b H (S.cat bu);rw[se];exact h,fun c hc=> .inl hc⟩,Mod.refl _ _,Nat.zero_le _,rfl⟩
 rintro i L s1 ⟨⟨H1,h1,hH1⟩,hm1,hi,rfl⟩
 refine uG ?_
 refine uJ [0,1,5,6] ?_
 refine ae rfl rfl (fun hc2=>?_) (fun hc2=>?_)
 ·simp at hc2
  obtain⟨x,g1,g2,g3⟩:=h1.ex
  obtain⟨ax,cx,xx,ex⟩:=g2.slc
  have hln:(S.cat (ic ((be8 v).take i))).len≤S.len+i:=by rw[jN,j9,List.length_take];omega
  have htd1:=hm1.tidy htd
  let s2:St:={s1 with h:=s1.h.put s1.nx (.cells (Tr.of [bA (v/256^ (7- i) % 256)]) 1),nx:=s1.nx+1}
  have hm2:Am.Mod No s1 s2:=(Mod.refl _ s1).new _
  have hsrc:aZ s2 1 (.slc (some (s1.nx,0,1)) 1 1 true)=some ([v/256^ (7- i) % 256].length,[v/256^ (7- i) % 256].map bA):=gB (rows:=[[bA (v/256^ (7- i) % 256)]]) rfl (fun r hr=>by rcases List.mem_singleton.mp hr with rfl;rfl) bm rfl
  obtain⟨v2,s3,e3,b3,hm3,hv3⟩:=(g2.mod hm2 (fun _ _ h=>h)).app cM tH hsrc (fun q hq=>by rcases List.mem_singleton.mp hq with rfl;exact Nat.mod_lt _ (by decide)) (by simp) (by simp;omega)
  obtain⟨a2,c2,x2,ev2⟩:=b3.slc
  obtain⟨s4,e4,h4,hm4⟩:=h1.next g3 hm2 hm3 b3 hv3 (by rw[ev2];rfl) (by rw[ev2];rfl) g1
  rw[tm,←pF,←Ho (show i<8 by omega)] at h4 b3
  rw[ex] at e3 g1
  rw[ev2] at e3 e4
  simp only[s2] at e3
  refine uG ?_
  refine aU [(0,none),(1,none),(2,none),(3,none),(4,none),(5,none),(6,none),(7,none),(8,none),(9,none),(10,none),(11,none),(12,some [false,true,true,true,true,true,true,false,true,true,true,true]),(13,none),(14,none),(15,some [false,true,false,false,false,false,false,false,false,false,false,false])] (by kernel_rfl) (by kernel_rfl) (by simp(disch:=omega) only[uB,uT,Nat.reduceEqDiff,↓reduceIte,uD,mask,aC,aB,KE,bN,D6,Nat.zero_add,g1.ld (i:=0) rfl cM rfl cQ,MZ (show i≤7 by omega),D7 fa jB,Ge,tI (htd1 _ (Nat.le_refl _)),fM cM (.inl rfl),e3,e4];exact rfl) ?_
  refine uG ?_
  exact aH (i+1) [(0, .ptr (some (b,0))),(1, .int .u64 (v:Int)),(5, .int .i64 ((i+1:Nat):Int))] ⟨⟨_,h4,fun c hc=>hc.elim (hH1 c) (fun e=> .inr (by have:=hm1.nx;have:s2.nx=s1.nx+1:=rfl;omega))⟩,hm1.trans hm4 (fun c hc h1=>(hH1 c h1).elim id (fun h=>by omega)),by omega,rfl⟩ (by show 8- (i+1)<8- i;omega) (by simp[aI,az])
 ·simp at hc2
  have:i=8:=by omega
  subst this
  refine uG ?_
  rw[List.take_of_length_le (by simp[be8]),BL hv] at h1
  exact fC rfl ⟨s1,H1,rfl,h1,hm1,hH1⟩
end
end Go.Proofs.Ytofohkdkpbigiaa
end
section
namespace Go.Proofs.Ytofohkdkpbigiaa
open Go.Am
set_option maxRecDepth 10000
set_option maxHeartbeats 1000000
set_option linter.unusedSimpArgs false
def iR (n:Int):List AV:=[.int .i64 n]
section
variable {O:bj}
theorem WP.mono {s:St}{b:Nat}{H:Nat→Prop}{S:Str}{r:CR}(h:WP s b H S r):∃s' H',r= .ret (.tup []) s'∧Wri s' b H' S∧Am.Mod H s s'∧∀c,H' c→H c∨s.nx≤c:=h
structure C4 (O:bj):Prop where
 word:O 82=none
 uF:O 70=none
 text:O 71=none
theorem yd (ho:C4 O){s:St}{b:Nat}{H:Nat→Prop}{S:Str}(h:Wri s b H S)(htd:Tidy s){v:AV}{ns:List Int}(hs:Sli s v 1 (ns.map iR))(hb:∀c,blk v=some c→¬H c)(hl:S.len+8*ns.length≤1000000):
  Ca X O (.fn 70) [.ptr (some (b,0)),v] s (WP s b H (S.app (ns.map aY))):=by
 obtain⟨a,c,x,rfl,_⟩:=hs.ex
 rw[List.length_map] at hs hb
 refine bb ho.uF Ky rfl ?_
 unfold aD aD aD
 rw[List.length_map]
 refine uG ?_
 let I:Nat→Sl→St→Prop:=fun i L s'=>(∃H',Wri s' b H' (S.app ((ns.take i).map aY))∧∀c,H' c→H c∨s.nx≤c)∧Am.Mod H s s'∧i≤ns.length∧L=[(0, .ptr (some (b,0))),(6, .slc a ns.length c x),(7, .int .i64 (ns.length:Int)),(8, .int .i64 (i:Int))]
 refine WL.less (M:=[(0, .ptr (some (b,0))),(6, .slc a ns.length c x),(7, .int .i64 (ns.length:Int)),(8, .int .i64 ((0:Nat):Int))]) ?_ rfl
 refine aV I (fun i=>ns.length- i) ?_ ns.length 0 _ s (by simp) ⟨⟨H,h,fun c hc=> .inl hc⟩,Mod.refl _ _,Nat.zero_le _,rfl⟩
 rintro i L s1 ⟨⟨H1,h1,hH1⟩,hm1,hi,rfl⟩
 refine uG ?_
 refine uJ [0,6,7,8,9] ?_
 refine ae rfl rfl (fun hc2=>?_) (fun hc2=>?_)
 ·simp at hc2
  obtain⟨q,hq⟩:∃q,ns[i]? =some q:=⟨_,List.getElem?_eq_getElem (by omega)⟩
  obtain⟨b5,off5,c5,x5,t5,n5,e5,_,k2,k3⟩:=(hs.mod hm1 hb).at (i:=i) (r:=iR q) (by simp[hq])
  rw[List.length_map] at e5
  cases e5
  have k4:=eS k3
  have hln:(S.app ((ns.take i).map aY)).len≤S.len+8*i:=by rw[bf,eW,List.length_take];omega
  have htk:(ns.take (i+1)).map aY=(ns.take i).map aY++[aY q]:=by rw[List.take_add_one,hq,List.map_append];rfl
  repeat(first|refine uS ?_ |refine aa rfl ?_ |refine ad (by simp(disch:=omega) only[uB,uT,aQ mT ay,ah aN rfl ay k2 k4,Int.toNat_natCast,Cy aN fa];exact rfl) ?_)
  refine aj (yC ho.word h1 (hm1.tidy htd) (by omega) (qU q)) ?_ ?_
  ·rintro r s2 ⟨s2',H2,er,h2,hm2,hH2⟩
   cases er
   refine uL ?_
   refine uG ?_
   refine aH (i+1) [(0, .ptr (some (b,0))),(6, .slc (some (b5,off5,1)) ns.length c x),(7, .int .i64 (ns.length:Int)),(8, .int .i64 ((i+1:Nat):Int))] ⟨⟨H2,?_,fun c hc=>(hH2 c hc).elim (hH1 c) (fun h=> .inr (by have:=hm1.nx;omega))⟩,hm1.trans hm2 (fun c hc h1=>(hH1 c h1).elim id (fun h=>by omega)),by omega,rfl⟩ (by show ns.length- (i+1)<ns.length- i;omega) (by simp[aI,az])
   show Wri s2 b H2 (S.app ((ns.take (i+1)).map aY))
   rw[htk,Jf];exact h2
  ·rintro r s' ⟨_,_,er,_⟩
   cases er
 ·simp at hc2
  have:i=ns.length:=by omega
  subst this
  refine uG ?_
  rw[List.take_length] at h1
  exact fC rfl ⟨s1,H1,rfl,h1,hm1,hH1⟩
def cU (s:Str):List Str:=[aY s.len,s]
theorem bg (s:Str):aM (cU s)=8+s.len:=by simp[aM,cU,aY,wd]
theorem ji {s:St}{n:Int}:bB X 134 1 [(0, .int .i64 n)] s=some (.val (.slc (some (s.nx,0,1)) 1 1 true) {s with h:=s.h.put s.nx (.cells (Tr.of [.int .i64 n]) 1),nx:=s.nx+1}):=
 vS mT ay Ak rfl
theorem ot {x y:AV}{s:St}:j8 X 83 9 x y s=cN X 83 x y s:=fM (elem:=0) aE (.inr rfl)
theorem Wri.put {s:St}{b:Nat}{H:Nat→Prop}{S v:Str}(h:Wri s b H S)(hv:v.ok)(hl:S.len+v.len≤1000000)(h0:v≠bu):
  ∃a c x s2 a2 n2 c2 x2 s3,(Bx s b [.slc a S.len c x])∧cN X 83 (.slc a S.len c x) (.str v) s=some (.val (.slc a2 n2 c2 x2) s2)∧cK X 83 (.ptr (some (b,0))) (.slc a2 n2 c2 x2) s2=some (.val (.tup []) s3)∧Am.Mod H s s2∧WP s b H (S.cat v) (.ret (.tup []) s3):=by
 obtain⟨x0,g1,g2,g3⟩:=h.ex
 obtain⟨ax,cx,xx,ex⟩:=g2.slc
 have hne:bl v≠[]:=fun e=>h0 (Mg hv (by rw[←zX,e];rfl))
 obtain⟨v2,s2,e2,b2,hm2,hv2⟩:=g2.app cM tH Af (GF v) hne (by rw[zX];exact hl)
 obtain⟨a2,c2,x2,ev2⟩:=b2.slc
 obtain⟨s3,e3,h3,hm3⟩:=h.next g3 (Mod.refl _ s) hm2 b2 hv2 (by rw[ev2];rfl) (by rw[ev2];rfl) g1
 rw[yR hv] at h3
 rw[ex] at e2 g1
 rw[ev2] at e2 e3
 exact⟨ax,cx,xx,s2,a2,_,c2,x2,s3,g1,e2,e3,hm2.mono fun c _ e=>(g3 c e).1,s3,_,rfl,h3,hm3,fun c hc=>hc.imp id (fun e=>by omega)⟩
theorem Fe (ho:C4 O){s:St}{b:Nat}{H:Nat→Prop}{S:Str}(h:Wri s b H S)(htd:Tidy s){v:Str}(hv:v.ok)(hl:S.len+(8+v.len)≤1000000):
  Ca X O (.fn 71) [.ptr (some (b,0)), .str v] s (WP s b H (S.app (cU v))):=by
 refine bb ho.text Lq rfl ?_
 unfold aD aD aD
 repeat(first|refine uS ?_ |refine aa rfl ?_ |refine ad (by simp(disch:=omega) only[uB,uT,aJ aE,ji];exact rfl) ?_)
 let s1:St:={s with h:=s.h.put s.nx (.cells (Tr.of [.int .i64 (v.len:Int)]) 1),nx:=s.nx+1}
 have hm1:Am.Mod No s s1:=(Mod.refl _ s).new _
 have hb1:Bx s1 s.nx ([(v.len:Int)].map iR).flatten:=Bx.box (s:=s)
 have hsl:Sli s1 (.slc (some (s.nx,0,1)) 1 1 true) 1 ([(v.len:Int)].map iR):=hb1.sli (fun r hr=>by obtain⟨q,_,rfl⟩:=List.mem_map.mp hr;rfl) rfl
 refine aj (yd ho (h.no hm1) (hm1.tidy htd) hsl (fun c hc hH=>by cases hc;exact Nat.lt_irrefl _ (h.lt _ hH)) (by simp;omega)) ?_ ?_
 ·rintro r s2 ⟨s2',H2,er,h2,hm2,hH2⟩
  cases er
  have hm12:Am.Mod H s s2:=(hm1.mono (C:=H) (fun _ _ h=>h.elim)).trans hm2 (fun _ _ h=>h)
  have hHH:∀c,H2 c→H c∨s.nx≤c:=fun c hc=>(hH2 c hc).imp id fun h=>by have:s1.nx=s.nx+1:=rfl;omega
  refine uL ?_
  change Wri s2 b H2 (S.app [aY (v.len:Int)]) at h2
  have hl2:(S.app [aY (v.len:Int)]).len=S.len+8:=by rw[bf];rfl
  by_cases h0:v=bu
  ·subst h0
   obtain⟨x0,g1,g2,g3⟩:=h2.ex
   obtain⟨ax,cx,xx,ex⟩:=g2.slc
   rw[ex] at g1
   obtain⟨s3,e3,k3,hm3,n3⟩:=g1.stm (X:=X) (t:=83) (i:=0) (w:= .slc ax (S.app [aY (bu.len:Int)]).len cx xx) rfl cQ rfl rfl
   repeat(first|refine uS ?_ |refine aa rfl ?_ |refine ad (by simp(disch:=omega) only[uB,uT,bN,D6,Nat.zero_add,g1.ld (i:=0) rfl cM rfl cQ,ot,vv cM tH (Af (v:=bu)),e3];exact rfl) ?_)
   have hS:S.app (cU bu)=S.app [aY (bu.len:Int)]:=by
    show(S.app [aY (bu.len:Int)]).cat bu=_
    rw[se]
   rw[hS]
   refine fC rfl ⟨s3,H2,rfl,⟨⟨_,k3,(by rw[←ex];exact(g2.mod hm3 (fun c hc=>(g3 c hc).2)):Buf s3 _ _),fun c hc=>g3 c (by rw[ex];exact hc)⟩,h2.own,fun c hc=>by rw[n3];exact h2.lt c hc⟩,hm12.trans hm3 (fun c hc e=>by subst e;exact(hHH _ h2.own).elim id (fun h=>by omega)),hHH⟩
  ·obtain⟨a3,c3,x3,s3,a4,n4,c4,x4,s4,g1,e3,e4,hm3,hw⟩:=h2.put hv (by show(S.app [aY (v.len:Int)]).len+_≤_;omega) h0
   repeat(first|refine uS ?_ |refine aa rfl ?_ |refine ad (by simp(disch:=omega) only[uB,uT,bN,D6,Nat.zero_add,g1.ld (i:=0) rfl cM rfl cQ,ot,e3,e4];exact rfl) ?_)
   obtain⟨s4',H4,er,h4,hm4,hH4⟩:=hw
   cases er
   exact fC rfl ⟨s4,H4,rfl,h4,hm12.trans hm4 (fun c hc h=>(hHH c h).elim id (fun h=>by omega)),fun c hc=>(hH4 c hc).elim (hHH c) (fun h=> .inr (by have:=hm12.nx;omega))⟩
 ·rintro r s' ⟨_,_,er,_⟩
  cases er
end
end Go.Proofs.Ytofohkdkpbigiaa
end
section
namespace Go.Proofs.Ytofohkdkpbigiaa
open Go.Am
set_option maxRecDepth 10000
set_option maxHeartbeats 1000000
set_option linter.unusedSimpArgs false
structure WS (s0:St)(H0:Nat→Prop)(b:Nat)(s:St)(S:Str):Prop where
 w:∃H,Wri s b H S∧∀c,H c→H0 c∨s0.nx≤c
 m:Am.Mod H0 s0 s
 td:Tidy s
theorem WS.start {s:St}{b:Nat}{H:Nat→Prop}{S:Str}(h:Wri s b H S)(htd:Tidy s):WS s H b s S:=⟨⟨H,h,fun _ hc=> .inl hc⟩,Mod.refl _ _,htd⟩
theorem WS.no {s0 s t:St}{b:Nat}{H0:Nat→Prop}{S:Str}(h:WS s0 H0 b s S)(hm:Am.Mod No s t):WS s0 H0 b t S:=
 let⟨H,h1,h2⟩:=h.w;⟨⟨H,h1.no hm,h2⟩,h.m.trans hm (fun _ _ e=>e.elim),hm.tidy h.td⟩
theorem WS.wp {s0 s t:St}{b:Nat}{H0 H:Nat→Prop}{S S':Str}(h:WS s0 H0 b s S)(hH:∀c,H c→H0 c∨s0.nx≤c)(h':WP s b H S' (.ret (.tup []) t)):WS s0 H0 b t S':=by
 obtain⟨s',H',er,h1,h2,h3⟩:=h'
 cases er
 have n0:=h.m.nx
 exact⟨⟨H',h1,fun c hc=>(h3 c hc).elim (hH c) (fun e=> .inr (by omega))⟩,h.m.trans h2 (fun c hc e=>(hH c e).elim id (fun e=>by omega)),h2.tidy h.td⟩
theorem WS.base {s0 s:St}{b:Nat}{H0:Nat→Prop}{S:Str}(h:WS s0 H0 b s S):∃H,WS s H b s S∧(∀s' S',WS s H b s' S'→WS s0 H0 b s' S')∧(∀c,H c→H0 c∨s0.nx≤c)∧∀c,H c→c<s.nx:=by
 obtain⟨H,h1,h2⟩:=h.w
 have n0:=h.m.nx
 refine⟨H,WS.start h1 h.td,fun s' S' h'=>?_,h2,h1.lt⟩
 obtain⟨H',h3,h4⟩:=h'.w
 exact⟨⟨H',h3,fun c hc=>(h4 c hc).elim (h2 c) (fun e=> .inr (by omega))⟩,h.m.trans h'.m (fun c hc e=>(h2 c e).elim id (fun e=>by omega)),h'.td⟩
theorem Dz:∀ns:List Int,(ns.map iR).flatten=ns.map (AV.int .i64)
 |[]=>rfl
 |n::l=>by
  simp only[List.map_cons,List.flatten_cons,Dz l];rfl
theorem WS.Ei {s0 s t:St}{b:Nat}{H0:Nat→Prop}{S:Str}(h:WS s0 H0 b s S)(hm:Am.Mod No s t):∃H,WS t H b t S∧(∀s' S',WS t H b s' S'→WS s0 H0 b s' S')∧(∀c,H c→H0 c∨s0.nx≤c)∧∀c,H c→c<s.nx:=by
 obtain⟨H,h1,h2⟩:=h.w
 have n0:=h.m.nx
 have n1:=hm.nx
 refine⟨H,WS.start (h1.no hm) (hm.tidy h.td),fun s' S' h'=>?_,h2,h1.lt⟩
 obtain⟨H',h3,h4⟩:=h'.w
 exact⟨⟨H',h3,fun c hc=>(h4 c hc).elim (h2 c) (fun e=> .inr (by omega))⟩,(h.m.trans hm (fun c _ e=>e.elim)).trans h'.m (fun c hc e=>(h2 c e).elim id (fun e=>by omega)),h'.td⟩
def WSP (s0:St)(H0:Nat→Prop)(b:Nat)(S:Str):CR→Prop:=fun r=>∃s',r= .ret (.tup []) s'∧WS s0 H0 b s' S
section
variable {O:bj}
theorem K3:X.fns.get 72=some Try.f72:=by kernel_rfl
theorem ed {b off:Nat}:af X 77 (.ptr (some (b,off))) 0=some (.pure (.ptr (some (b,off)))):=by
 simp only[af,fL,bh,List.getElem?_cons_zero,List.getElem?_cons_succ,ay,Nat.add_zero]
theorem eB {b off:Nat}:af X 77 (.ptr (some (b,off))) 1=some (.pure (.ptr (some (b,off+1)))):=by
 simp only[af,fL,bh,List.getElem?_cons_zero,List.getElem?_cons_succ,jH,Nat.add_zero]
theorem fc {b off:Nat}:af X 77 (.ptr (some (b,off))) 2=some (.pure (.ptr (some (b,off+2)))):=by
 simp only[af,fL,bh,List.getElem?_cons_zero,List.getElem?_cons_succ,gF,Nat.add_zero]
theorem eQ {b off:Nat}:af X 77 (.ptr (some (b,off))) 3=some (.pure (.ptr (some (b,off+3)))):=by
 simp only[af,fL,bh,List.getElem?_cons_zero,List.getElem?_cons_succ,aF,Nat.add_zero]
theorem WS.call {s0 s:St}{H0:Nat→Prop}{b:Nat}{S S':Str}{t:Tgt}{args:List AV}(h:WS s0 H0 b s S)(hc:∀H,Wri s b H S→Ca X O t args s (WP s b H S')):Ca X O t args s (WSP s0 H0 b S'):=by
 obtain⟨H,h1,h2⟩:=h.w
 refine(hc H h1).mono fun r hr=>?_
 obtain⟨s',H',er,g⟩:=hr
 subst er
 exact⟨s',rfl,h.wp h2 ⟨s',H',rfl,g⟩⟩
theorem WS.text (ho:C4 O){s0 s:St}{H0:Nat→Prop}{b:Nat}{S v:Str}(h:WS s0 H0 b s S)(hv:v.ok)(hl:S.len+(8+v.len)≤1000000):Ca X O (.fn 71) [.ptr (some (b,0)), .str v] s (WSP s0 H0 b (S.app (cU v))):=
 h.call fun _ hw=>Fe ho hw h.td hv hl
theorem WS.word (ho:C4 O){s0 s:St}{H0:Nat→Prop}{b:Nat}{S:Str}(h:WS s0 H0 b s S){v:Nat}(hv:v<18446744073709551616)(hl:S.len+8≤1000000):Ca X O (.fn 82) [.ptr (some (b,0)), .int .u64 (v:Int)] s (WSP s0 H0 b (S.app [wd v])):=
 h.call fun _ hw=>yC ho.word hw h.td hl hv
theorem WS.uF (ho:C4 O){s0 s:St}{H0:Nat→Prop}{b:Nat}{S:Str}(h:WS s0 H0 b s S)(ns:List Int){k:Nat}(hl:S.len+8*ns.length≤1000000):
  Ca X O (.fn 70) [.ptr (some (b,0)), .slc (some (s.nx,0,1)) ns.length ns.length true] {s with h:=s.h.put s.nx (.cells (Tr.of (ns.map (AV.int .i64))) k),nx:=s.nx+1} (WSP s0 H0 b (S.app (ns.map aY))):=by
 have hm:Am.Mod No s {s with h:=s.h.put s.nx (.cells (Tr.of (ns.map (AV.int .i64))) k),nx:=s.nx+1}:=(Mod.refl _ s).new _
 obtain⟨H1,g1,g2⟩:=h.w
 have hb1:Bx {s with h:=s.h.put s.nx (.cells (Tr.of (ns.map (AV.int .i64))) k),nx:=s.nx+1} s.nx (ns.map iR).flatten:=by rw[Dz];exact Bx.box (s:=s)
 have hsl:Sli {s with h:=s.h.put s.nx (.cells (Tr.of (ns.map (AV.int .i64))) k),nx:=s.nx+1} (.slc (some (s.nx,0,1)) ns.length ns.length true) 1 (ns.map iR):=hb1.sli (fun r hr=>by obtain⟨q,_,rfl⟩:=List.mem_map.mp hr;rfl) (by simp)
 refine(yd ho (g1.no hm) (hm.tidy h.td) hsl (fun c hc hH=>?_) hl).mono fun r hr=>?_
 ·simp only[blk,Option.some.injEq] at hc
  subst hc
  exact Nat.lt_irrefl _ (g1.lt _ hH)
 ·obtain⟨s',H',er,g⟩:=hr
  subst er
  exact⟨s',rfl,(h.no hm).wp g2 ⟨s',H',rfl,g⟩⟩
def ib (v:Vl):List Str:=[aY v.kind,aY v.n,wd v.f]++cU v.s
def cW (r:List Vl):List Str:=aY r.length::(r.map ib).flatten
def dQ (l:List (List Vl)):List Str:=aY l.length::(l.map cW).flatten
def tc (v:Vl):Prop:=v.s.ok∧v.f<18446744073709551616∧ -9223372036854775808≤v.n∧v.n≤9223372036854775807∧ -9223372036854775808≤v.kind∧v.kind≤9223372036854775807
structure oP (s:St)(Z:Nat→Prop)(xv:AV)(rows:List (List Vl)):Prop where
 ex:∃vs:List AV,Sli s xv 1 (vs.map fun v=>[v])∧(∀c,blk xv=some c→Z c)∧dM (fun v r=>Sli s v 4 (r.map vl)∧∀c,blk v=some c→Z c) vs rows
theorem oP.mod {B Z:Nat→Prop}{s t:St}{xv:AV}{rows:List (List Vl)}(h:oP s Z xv rows)(hm:Am.Mod B s t)(hb:∀c,Z c→¬B c):oP t Z xv rows:=
 let⟨vs,h1,h2,h3⟩:=h.ex;⟨vs,h1.mod hm fun c hc=>hb c (h2 c hc),h2,h3.mono fun _ _ _ _ r=>⟨r.1.mod hm fun c hc=>hb c (r.2 c hc),r.2⟩⟩
theorem pV {α β:Type}{R:α→β→Prop}:∀ {l:List α} {m:List β},dM R l m→∀ {i:Nat} {b:β},m[i]? =some b→∃a,l[i]? =some a∧R a b
 |[],[],_,i,b,hb=>by simp at hb
 |[],_::_,h,_,_,_=>h.elim
 | _::_,[],h,_,_,_=>h.elim
 |a::l,b::m,⟨h1,h2⟩,0,c,hc=>⟨a,rfl,by simp at hc;exact hc▸h1⟩
 |a::l,b::m,⟨h1,h2⟩,i+1,c,hc=>by
  obtain⟨x,h3,h4⟩:=pV h2 (i:=i) (b:=c) (by simpa using hc)
  exact⟨x,by simpa using h3,h4⟩
theorem wj {b k x:Nat}{c c':Tr AV}{v:Vl}{t0:Tr AB}{g:Tr (Tr AV)}{sh:List Nat}(hs:stL (vl v) 0 c=some c'):cK X 77 (.ptr (some (b,0))) (.agg (vl v)) {h:=t0.put b (.cells c k),nx:=x,gl:=g,sh:=sh}=some (.val (.tup []) {h:=(t0.put b (.cells c k)).put b (.cells c' k),nx:=x,gl:=g,sh:=sh}):=
 dC dH rfl rfl hs
theorem nT (v:Vl):aM (ib v)=32+v.s.len:=by
 simp only[ib,aA,bg];show 24+_=_;omega
theorem da {α:Type}(f:α→List Str)(l:List α)(i:Nat){q:α}(hq:l[i]? =some q):aM ((l.take i).map f).flatten+aM (f q)≤aM (l.map f).flatten:=by
 have e:=List.take_append_drop i l
 have hd:l.drop i=q::l.drop (i+1):=by
  have hlt:=(List.getElem?_eq_some_iff.mp hq).1
  rw[List.drop_eq_getElem_cons hlt]
  rw[List.getElem?_eq_getElem hlt] at hq
  cases hq;rfl
 conv=>rhs;rw[←e,List.map_append,List.flatten_append,aA,hd,List.map_cons,List.flatten_cons,aA]
 omega
theorem fH {α:Type}(f:α→List Str)(l:List α)(i:Nat){q:α}(hq:l[i]? =some q):((l.take (i+1)).map f).flatten=((l.take i).map f).flatten++f q:=by
 rw[List.take_add_one,hq,List.map_append,List.flatten_append];simp
end
end Go.Proofs.Ytofohkdkpbigiaa
end
section
namespace Go.Proofs.Ytofohkdkpbigiaa
open Go.Am
set_option maxRecDepth 10000
set_option maxHeartbeats 1000000
set_option linter.unusedSimpArgs false
section
variable {O:bj}
theorem Fc (ho:C4 O)(hro:O 72=none){s0 s:St}{H0 Z:Nat→Prop}{b:Nat}{S:Str}(h:WS s0 H0 b s S){xv:AV}{rows:List (List Vl)}(hr:oP s0 Z xv rows)(hz:∀c,Z c→¬H0 c)(hok:∀r∈rows,∀v∈r,tc v)(hl:S.len+aM (dQ rows)≤1000000):
  Ca X O (.fn 72) [.ptr (some (b,0)),xv] s (WSP s0 H0 b (S.app (dQ rows))):=by
 obtain⟨vs,hs,hzx,hall⟩:=hr.ex
 have hvl:=hall.len
 obtain⟨a,c,x,rfl,_⟩:=hs.ex
 rw[List.length_map,hvl] at hs hzx ⊢
 have hl1:aM (dQ rows)=8+aM (rows.map cW).flatten:=by rw[dQ,bL];rfl
 have hrl:rows.length≤1000000:=by
  have:∀l:List (List Vl),l.length≤aM (l.map cW).flatten:=by
   intro l
   induction l with
   |nil=>exact Nat.le_refl _
   |cons r l ih=>rw[List.map_cons,List.flatten_cons,aA,cW,bL];show _+1≤8+_+_;omega
  have:=this rows
  omega
 refine bb hro K3 rfl ?_
 unfold aD aD aD
 repeat(first|refine uS ?_ |refine aa rfl ?_ |refine ad (by simp(disch:=omega) only[uB,uT,ji];exact rfl) ?_)
 refine aj (h.uF ho [(rows.length:Int)] (by simp;omega)) ?_ ?_
 ·rintro r s1 ⟨s1',er,h1⟩
  cases er
  refine uL ?_
  refine uG ?_
  let I:Nat→Sl→St→Prop:=fun i L s'=>WS s0 H0 b s' ((S.app [aY (rows.length:Int)]).app ((rows.take i).map cW).flatten)∧i≤rows.length∧L=[(0, .ptr (some (b,0))),(13, .slc a rows.length c x),(14, .int .i64 (rows.length:Int)),(15, .int .i64 (i:Int))]
  refine WL.less (M:=[(0, .ptr (some (b,0))),(13, .slc a rows.length c x),(14, .int .i64 (rows.length:Int)),(15, .int .i64 ((0:Nat):Int))]) ?_ rfl
  refine aV I (fun i=>rows.length- i) ?_ rows.length 0 _ s1 (by simp) ⟨h1,Nat.zero_le _,rfl⟩
  rintro i L s2 ⟨h2,hi,rfl⟩
  refine uG ?_
  refine uJ [0,13,14,15,16] ?_
  refine ae rfl rfl (fun hc2=>?_) (fun hc2=>?_)
  ·simp at hc2
   obtain⟨q,hq⟩:∃q,rows[i]? =some q:=⟨_,List.getElem?_eq_getElem (by omega)⟩
   obtain⟨w,hw,hws,hwz⟩:=pV hall hq
   obtain⟨b5,off5,c5,x5,t5,n5,e5,_,k2,k3⟩:=(hs.mod h2.m fun c hc=>hz c (hzx c hc)).at (i:=i) (r:=[w]) (by rw[List.getElem?_map,hw];rfl)
   rw[List.length_map,hvl] at e5
   cases e5
   have k4:=eS k3
   obtain⟨aw,cw,xw,rfl,_⟩:=hws.ex
   rw[List.length_map] at hws hwz k4
   have hqm:=hok q (List.mem_of_getElem? hq)
   have hlt:=da cW rows i hq
   have hlq:aM (cW q)=8+aM (q.map ib).flatten:=by rw[cW,bL];rfl
   have hS2:((S.app [aY (rows.length:Int)]).app ((rows.take i).map cW).flatten).len=S.len+8+aM ((rows.take i).map cW).flatten:=by rw[bf,bf];rfl
   have hqk:q.length≤1000000:=by
    have:∀l:List Vl,l.length≤aM (l.map ib).flatten:=by
     intro l
     induction l with
     |nil=>exact Nat.le_refl _
     |cons r l ih=>rw[List.map_cons,List.flatten_cons,aA,nT];simp only[List.length_cons];omega
    have:=this q
    omega
   generalize hSS:(S.app [aY (rows.length:Int)]).app ((rows.take i).map cW).flatten=SS at*
   repeat(first|refine uS ?_ |refine aa rfl ?_ |refine ad (by simp(disch:=omega) only[uB,uT,aQ eO ey,ah iA rfl ey k2 k4,Int.toNat_natCast,ji];exact rfl) ?_)
   refine aj (h2.uF ho [(q.length:Int)] (by simp;omega)) ?_ ?_
   ·rintro r s3 ⟨s3',er,h3⟩
    cases er
    refine uL ?_
    refine uG ?_
    let J:Nat→Sl→St→Prop:=fun k L s'=>WS s0 H0 b s' ((SS.app [aY (q.length:Int)]).app ((q.take k).map ib).flatten)∧k≤q.length∧L=[(0, .ptr (some (b,0))),(13, .slc (some (b5,off5,1)) rows.length c x),(14, .int .i64 (rows.length:Int)),(15, .int .i64 (i:Int)),(24, .slc aw q.length cw xw),(25, .int .i64 (q.length:Int)),(26, .int .i64 (k:Int))]
    refine WL.less (M:=[(0, .ptr (some (b,0))),(13, .slc (some (b5,off5,1)) rows.length c x),(14, .int .i64 (rows.length:Int)),(15, .int .i64 (i:Int)),(24, .slc aw q.length cw xw),(25, .int .i64 (q.length:Int)),(26, .int .i64 ((0:Nat):Int))]) ?_ rfl
    refine aV J (fun k=>q.length- k) ?_ q.length 0 _ s3 (by simp) ⟨h3,Nat.zero_le _,rfl⟩
    rintro k L s4 ⟨h4,hk,rfl⟩
    refine uG ?_
    refine uJ [0,13,14,15,24,25,26,27] ?_
    refine ae rfl rfl (fun hc3=>?_) (fun hc3=>?_)
    ·simp at hc3
     obtain⟨v,hv⟩:∃v,q[k]? =some v:=⟨_,List.getElem?_eq_getElem (by omega)⟩
     obtain⟨b6,off6,c6,x6,t6,n6,e6,_,j2,j3⟩:=(hws.mod h4.m fun c hc=>hz c (hwz c hc)).at (i:=k) (r:=vl v) (by rw[List.getElem?_map,hv];rfl)
     rw[List.length_map] at e6
     cases e6
     obtain⟨v1,v2,v3,v4,v5,v6⟩:=hqm v (List.mem_of_getElem? hv)
     obtain⟨cc,hcc,_⟩:=ej (cs:=vl v) (zs:=[.int .i64 0, .int .i64 0, .int .u64 0, .str ⟨0,0⟩]) rfl
     have hlt3:=da ib q k hv
     have hlv:=nT v
     have hS4:((SS.app [aY (q.length:Int)]).app ((q.take k).map ib).flatten).len=SS.len+8+aM ((q.take k).map ib).flatten:=by rw[bf,bf];rfl
     have hft:=fH ib q k hv
     generalize hTT:(SS.app [aY (q.length:Int)]).app ((q.take k).map ib).flatten=TT at*
     (repeat(first|refine uS ?_ |refine aa rfl ?_));refine ad (by simp(disch:=omega) only[uB,uT,aQ iA dH,cE fL rfl dH j2 j3,Int.toNat_natCast,bQ nN rfl,AV.cells,wj hcc];exact rfl) ?_;(repeat(first|refine uS ?_ |refine aa rfl ?_))
     refine dy hcc fun s5 hn5 hm5 g5=>?_
     obtain⟨H5,h5,hup,_,hlow⟩:=h4.Ei hm5
     have gb:∀ {s' S'},WS s5 H5 b s' S'→Bx s' s4.nx (vl v):=fun hx=>g5.mod hx.m (fun e=>Nat.lt_irrefl _ (hlow _ e))
     repeat(first|refine uS ?_ |refine aa rfl ?_ |refine ad (by simp(disch:=omega) only[uB,uT,ed,Nat.zero_add,g5.ld (i:=0) rfl aN rfl ay,ji];exact rfl) ?_)
     refine aj (h5.uF ho [v.kind] (by simp;omega)) ?_ ?_
     ·rintro r s6 ⟨s6',er,h6⟩
      cases er
      have g6:=gb h6
      refine uL ?_
      have l6:(TT.app ([v.kind].map aY)).len=TT.len+8:=by rw[bf];rfl
      repeat(first|refine uS ?_ |refine aa rfl ?_ |refine ad (by simp(disch:=omega) only[uB,uT,eB,Nat.zero_add,g6.ld (i:=1) rfl lS rfl jH,Cy lS fa];exact rfl) ?_)
      refine aj (h6.word ho (qU v.n) (by omega)) ?_ ?_
      ·rintro r s7 ⟨s7',er,h7⟩
       cases er
       have g7:=gb h7
       refine uL ?_
       have l7:((TT.app ([v.kind].map aY)).app [wd (u64 v.n)]).len=TT.len+16:=by rw[bf,bf];rfl
       repeat(first|refine uS ?_ |refine aa rfl ?_ |refine ad (by simp(disch:=omega) only[uB,uT,fc,Nat.zero_add,g7.ld (i:=2) rfl fa rfl gF];exact rfl) ?_)
       refine aj (h7.word ho v2 (by omega)) ?_ ?_
       ·rintro r s8 ⟨s8',er,h8⟩
        cases er
        have g8:=gb h8
        refine uL ?_
        have l8:(((TT.app ([v.kind].map aY)).app [wd (u64 v.n)]).app [wd v.f]).len=TT.len+24:=by rw[bf,bf,bf];rfl
        repeat(first|refine uS ?_ |refine aa rfl ?_ |refine ad (by simp(disch:=omega) only[uB,uT,eQ,Nat.zero_add,g8.ld (i:=3) rfl aE rfl aF];exact rfl) ?_)
        refine aj (h8.text ho v1 (by omega)) ?_ ?_
        ·rintro r s9 ⟨s9',er,h9⟩
         cases er
         refine uL ?_
         refine uG ?_
         refine aH (k+1) [(0, .ptr (some (b,0))),(13, .slc (some (b5,off5,1)) rows.length c x),(14, .int .i64 (rows.length:Int)),(15, .int .i64 (i:Int)),(24, .slc (some (b6,off6,4)) q.length cw xw),(25, .int .i64 (q.length:Int)),(26, .int .i64 ((k+1:Nat):Int))] ⟨?_,by omega,rfl⟩ (by show q.length- (k+1)<q.length- k;omega) (by simp[aI,az])
         rw[hft,bw,hTT]
         exact hup _ _ h9
        ·rintro r s' ⟨_,er,_⟩
         cases er
       ·rintro r s' ⟨_,er,_⟩
        cases er
      ·rintro r s' ⟨_,er,_⟩
       cases er
     ·rintro r s' ⟨_,er,_⟩
      cases er
    ·simp at hc3
     have:k=q.length:=by omega
     subst this
     rw[List.take_length] at h4
     refine uG ?_
     refine aH (i+1) [(0, .ptr (some (b,0))),(13, .slc (some (b5,off5,1)) rows.length c x),(14, .int .i64 (rows.length:Int)),(15, .int .i64 ((i+1:Nat):Int))] ⟨?_,by omega,rfl⟩ (by show rows.length- (i+1)<rows.length- i;omega) (by simp[aI,az])
     rw[fH cW rows i hq,bw,hSS]
     exact h4
   ·rintro r s' ⟨_,er,_⟩
    cases er
  ·simp at hc2
   have:i=rows.length:=by omega
   subst this
   refine uG ?_
   rw[List.take_length] at h2
   exact fC rfl ⟨s2,rfl,h2⟩
 ·rintro r s' ⟨_,er,_⟩
  cases er
end
end Go.Proofs.Ytofohkdkpbigiaa
end
section
namespace Go.Proofs.Ytofohkdkpbigiaa
open Go.Am
set_option maxRecDepth 10000
set_option maxHeartbeats 1000000
set_option linter.unusedSimpArgs false
def eI (r:Str×Str):List Str:=cU r.1++cU r.2
def dL (w:Str×Str×Bool):List Str:=(cU w.1++cU w.2.1)++[aY (if w.2.2=true then 1 else 0)]
def bJ (c:Cmd):List Str:=([c.kind,c.client,c.seq,c.snap,(c.keys.length:Int)].map aY)++(c.keys.map cU).flatten
def dg (c:Cmd):List Str:=aY c.ranges.length::(c.ranges.map eI).flatten
def eZ (c:Cmd):List Str:=aY c.writes.length::(c.writes.map dL).flatten
def jq (c:Cmd):List Str:=(([c.dl,c.after,c.held].map aY)++cU c.text)++([aY c.code]++dQ c.rows)
def cI (c:Cmd):List Str:=((bJ c++dg c)++eZ c)++jq c
structure sc (c:Cmd):Prop where
 keys:∀k∈c.keys,k.ok
 ranges:∀r∈c.ranges,r.1.ok∧r.2.ok
 writes:∀w∈c.writes,w.1.ok∧w.2.1.ok
 text:c.text.ok
 rows:∀r∈c.rows,∀v∈r,tc v
section
variable {O:bj}
theorem Dr:X.fns.get 50=some Try.f50:=by kernel_rfl
theorem Bw {s:St}{a b c d e:Int}:bB X 134 5 [(0, .int .i64 a),(1, .int .i64 b),(2, .int .i64 c),(3, .int .i64 d),(4, .int .i64 e)] s=some (.val (.slc (some (s.nx,0,1)) 5 5 true) {s with h:=s.h.put s.nx (.cells (Tr.of [.int .i64 a, .int .i64 b, .int .i64 c, .int .i64 d, .int .i64 e]) 5),nx:=s.nx+1}):=by
 simp only[bB,mT,ay,Ak]
 simp only[eG,lR,dc,AV.cells,dB,fE,aX,iF]
 rfl
theorem G9 {s:St}{a b c:Int}:bB X 134 3 [(0, .int .i64 a),(1, .int .i64 b),(2, .int .i64 c)] s=some (.val (.slc (some (s.nx,0,1)) 3 3 true) {s with h:=s.h.put s.nx (.cells (Tr.of [.int .i64 a, .int .i64 b, .int .i64 c]) 3),nx:=s.nx+1}):=by
 simp only[bB,mT,ay,Ak]
 simp only[eG,lR,dc,AV.cells,dB,fE,aX,iF]
 rfl
theorem Bq {b k x:Nat}{c c':Tr AV}{v:Str×Str}{t0:Tr AB}{g:Tr (Tr AV)}{sh:List Nat}(hs:stL (pr v) 0 c=some c'):cK X 42 (.ptr (some (b,0))) (.agg (pr v)) {h:=t0.put b (.cells c k),nx:=x,gl:=g,sh:=sh}=some (.val (.tup []) {h:=(t0.put b (.cells c k)).put b (.cells c' k),nx:=x,gl:=g,sh:=sh}):=
 dC fQ rfl rfl hs
structure P8 (O:bj):Prop where
 num:C4 O
 rows:O 72=none
 command:O 50=none
theorem zI (ho:P8 O){s:St}{H Z:Nat→Prop}{b:Nat}{S:Str}(h:Wri s b H S)(htd:Tidy s){c:Cmd}{z:CL}(hc:jI s c z)(hr:oP s Z z.x c.rows)(hz:∀d,z.has d∨Z d→¬H d)(hok:sc c)(hl:S.len+aM (cI c)≤1000000):
  Ca X O (.fn 50) [.ptr (some (b,0)), .agg (bY c z)] s (WP s b H (S.app (cI c))):=by
 obtain⟨ak,ck,xk,ek,_⟩:=hc.k.ex
 obtain⟨ar,cr,xr,er,_⟩:=hc.r.ex
 obtain⟨aw,cw,xw,ew,_⟩:=hc.w.ex
 rw[List.length_map] at ek er ew
 have hlen:aM (cI c)=aM (bJ c)+aM (dg c)+aM (eZ c)+aM (jq c):=by simp only[cI,aA]
 have hlk:aM (bJ c)=40+aM (c.keys.map cU).flatten:=by rw[bJ,aA,eW];rfl
 have hlr:aM (dg c)=8+aM (c.ranges.map eI).flatten:=by rw[dg,bL];rfl
 have hlw:aM (eZ c)=8+aM (c.writes.map dL).flatten:=by rw[eZ,bL];rfl
 have hle:aM (jq c)=24+(8+c.text.len)+(8+aM (dQ c.rows)):=by rw[jq,aA,aA,aA,eW,bg];rfl
 refine bb ho.command Dr rfl ?_
 unfold aD aD aD
 (repeat(first|refine uS ?_ |refine aa rfl ?_));refine ad (by simp(disch:=omega) only[uB,uT,cX (cs:=bY c z) hc.qI];exact rfl) ?_;(repeat(first|refine uS ?_ |refine aa rfl ?_))
 refine eE fun s1 hn1 hm1 hb1=>?_
 have h1:WS s1 H b s1 S:=WS.start (h.no hm1) (hm1.tidy htd)
 have hc1:=hc.no hm1
 have hr1:=hr.mod hm1 (fun _ _ h=>h)
 have hnH:¬H s.nx:=fun e=>Nat.lt_irrefl _ (h.lt _ e)
 have gb:∀ {s' S'},WS s1 H b s' S'→Bx s' s.nx (bY c z):=fun hx=>hb1.mod hx.m hnH
 have fin:∀ {s' S'},WS s1 H b s' S'→WP s b H S' (.ret (.tup []) s'):=fun hx=>by
  obtain⟨H',h3,h4⟩:=hx.w
  exact⟨_,H',rfl,h3,(hm1.mono (C:=H) (fun _ _ h=>h.elim)).trans hx.m (fun _ _ e=>e),fun d hd=>(h4 d hd).imp id (fun e=>by omega)⟩
 have gk:∀ {s' S'},WS s1 H b s' S'→aO X 36 (.ptr (some (s.nx,4))) s'=some (.old (.slc ak c.keys.length ck xk)):=fun hx=>by rw[←ek];exact(gb hx).ld (i:=4) rfl dS rfl fV
 have gr:∀ {s' S'},WS s1 H b s' S'→aO X 37 (.ptr (some (s.nx,5))) s'=some (.old (.slc ar c.ranges.length cr xr)):=fun hx=>by rw[←er];exact(gb hx).ld (i:=5) rfl eP rfl fY
 have gw:∀ {s' S'},WS s1 H b s' S'→aO X 35 (.ptr (some (s.nx,6))) s'=some (.old (.slc aw c.writes.length cw xw)):=fun hx=>by rw[←ew];exact(gb hx).ld (i:=6) rfl ct rfl fW
 repeat(first|refine uS ?_ |refine aa rfl ?_ |refine ad (by simp(disch:=omega) only[uB,uT,jD,gT,lA,me,lh,Nat.zero_add,hb1.ld (i:=0) rfl aN rfl ay,hb1.ld (i:=1) rfl aN rfl ay,hb1.ld (i:=2) rfl aN rfl ay,hb1.ld (i:=3) rfl aN rfl ay,gk h1,Bw];exact rfl) ?_)
 refine aj (h1.uF ho.num [c.kind,c.client,c.seq,c.snap,(c.keys.length:Int)] (by simp;omega)) ?_ ?_
 ·rintro r s2 ⟨s2',e2,h2⟩
  cases e2
  refine uL ?_
  refine dR ?_
  refine cJ ?_
  have hkl:=hc.kl
  have hS1:(S.app ([c.kind,c.client,c.seq,c.snap,(c.keys.length:Int)].map aY)).len=S.len+40:=by rw[bf,eW];rfl
  generalize hT1:(S.app ([c.kind,c.client,c.seq,c.snap,(c.keys.length:Int)].map aY))=T1 at*
  refine fP (fun L s'=>L=[(0, .ptr (some (b,0))),(3, .ptr (some (s.nx,0)))]∧WS s1 H b s' (T1.app (c.keys.map cU).flatten)) ?_ ?_
  ·repeat(first|refine uS ?_ |refine aa rfl ?_ |refine ad (by simp(disch:=omega) only[uB,uT,lh,Nat.zero_add,gk h2];exact rfl) ?_)
   let I:Nat→Sl→St→Prop:=fun i L s'=>WS s1 H b s' (T1.app ((c.keys.take i).map cU).flatten)∧i≤c.keys.length∧L=[(0, .ptr (some (b,0))),(3, .ptr (some (s.nx,0))),(26, .slc ak c.keys.length ck xk),(27, .int .i64 (c.keys.length:Int)),(28, .int .i64 (i:Int))]
   refine WL.less (M:=[(0, .ptr (some (b,0))),(3, .ptr (some (s.nx,0))),(26, .slc ak c.keys.length ck xk),(27, .int .i64 (c.keys.length:Int)),(28, .int .i64 ((0:Nat):Int))]) ?_ rfl
   refine aV I (fun i=>c.keys.length- i) ?_ c.keys.length 0 _ _ (by simp) ⟨h2,Nat.zero_le _,rfl⟩
   rintro i L t1 ⟨g1,hi,rfl⟩
   refine uG ?_
   refine uJ [0,3,26,27,28,29] ?_
   refine ae rfl rfl (fun hc2=>?_) (fun hc2=>?_)
   ·simp at hc2
    obtain⟨q,hq⟩:∃q,c.keys[i]? =some q:=⟨_,List.getElem?_eq_getElem (by omega)⟩
    obtain⟨b5,off5,c5,x5,t5,n5,e5,_,k2,k3⟩:=(hc1.k.mod g1.m fun d hd=>hz d (.inl (.inl hd))).at (i:=i) (r:=kr q) (by simp[hq])
    have hlt:=da cU c.keys i hq
    have hft:=fH cU c.keys i hq
    have hlS:(T1.app ((c.keys.take i).map cU).flatten).len=T1.len+aM ((c.keys.take i).map cU).flatten:=bf _ _
    generalize hTT:T1.app ((c.keys.take i).map cU).flatten=TT at*
    rw[List.length_map] at e5
    rw[ek] at e5
    cases e5
    have k4:=eS k3
    have hqo:=hok.keys q (List.mem_of_getElem? hq)
    rw[bg] at hlt
    repeat(first|refine uS ?_ |refine aa rfl ?_ |refine ad (by simp(disch:=omega) only[uB,uT,aQ dS aF,ah aE rfl aF k2 k4,Int.toNat_natCast];exact rfl) ?_)
    refine aj (g1.text ho.num hqo (by omega)) ?_ ?_
    ·rintro r t2 ⟨t2',e2,g2⟩
     cases e2
     refine uL ?_
     refine uG ?_
     refine aH (i+1) [(0, .ptr (some (b,0))),(3, .ptr (some (s.nx,0))),(26, .slc (some (b5,off5,1)) c.keys.length ck xk),(27, .int .i64 (c.keys.length:Int)),(28, .int .i64 ((i+1:Nat):Int))] ⟨?_,by omega,rfl⟩ (by show c.keys.length- (i+1)<c.keys.length- i;omega) (by simp[aI,az])
     rw[hft,bw,hTT]
     exact g2
    ·rintro r s' ⟨_,e2,_⟩
     cases e2
   ·simp at hc2
    have:i=c.keys.length:=by omega
    subst this
    rw[List.take_length] at g1
    refine uG ?_
    exact cG [(0, .ptr (some (b,0))),(3, .ptr (some (s.nx,0)))] ⟨rfl,g1⟩ (by simp[aI,az])
  ·rintro L s3 ⟨rfl,h3⟩
   have hS3:T1.app (c.keys.map cU).flatten=S.app (bJ c):=by rw[bJ,bw,hT1]
   rw[hS3] at h3
   have hl3:(S.app (bJ c)).len=S.len+aM (bJ c):=bf _ _
   repeat(first|refine uS ?_ |refine aa rfl ?_ |refine ad (by simp(disch:=omega) only[uB,uT,jY,Nat.zero_add,gr h3,ji];exact rfl) ?_)
   refine aj (h3.uF ho.num [(c.ranges.length:Int)] (by simp;omega)) ?_ ?_
   ·rintro r s4 ⟨s4',e4,h4⟩
    cases e4
    refine uL ?_
    refine dR ?_
    refine cJ ?_
    have hrl:=hc.rl
    have hS4:((S.app (bJ c)).app ([(c.ranges.length:Int)].map aY)).len=S.len+aM (bJ c)+8:=by rw[bf,bf];rfl
    generalize hT4:(S.app (bJ c)).app ([(c.ranges.length:Int)].map aY)=T4 at*
    refine fP (fun L s'=>L=[(0, .ptr (some (b,0))),(3, .ptr (some (s.nx,0)))]∧WS s1 H b s' (T4.app (c.ranges.map eI).flatten)) ?_ ?_
    ·repeat(first|refine uS ?_ |refine aa rfl ?_ |refine ad (by simp(disch:=omega) only[uB,uT,jY,Nat.zero_add,gr h4];exact rfl) ?_)
     let I:Nat→Sl→St→Prop:=fun i L s'=>WS s1 H b s' (T4.app ((c.ranges.take i).map eI).flatten)∧i≤c.ranges.length∧L=[(0, .ptr (some (b,0))),(3, .ptr (some (s.nx,0))),(43, .slc ar c.ranges.length cr xr),(44, .int .i64 (c.ranges.length:Int)),(45, .int .i64 (i:Int))]
     refine WL.less (M:=[(0, .ptr (some (b,0))),(3, .ptr (some (s.nx,0))),(43, .slc ar c.ranges.length cr xr),(44, .int .i64 (c.ranges.length:Int)),(45, .int .i64 ((0:Nat):Int))]) ?_ rfl
     refine aV I (fun i=>c.ranges.length- i) ?_ c.ranges.length 0 _ _ (by simp) ⟨h4,Nat.zero_le _,rfl⟩
     rintro i L t1 ⟨g1,hi,rfl⟩
     refine uG ?_
     refine uJ [0,3,43,44,45,46] ?_
     refine ae rfl rfl (fun hc2=>?_) (fun hc2=>?_)
     ·simp at hc2
      obtain⟨q,hq⟩:∃q,c.ranges[i]? =some q:=⟨_,List.getElem?_eq_getElem (by omega)⟩
      obtain⟨b5,off5,c5,x5,t5,n5,e5,_,k2,k3⟩:=(hc1.r.mod g1.m fun d hd=>hz d (.inl (.inr (.inl hd)))).at (i:=i) (r:=pr q) (by simp[hq])
      have hlt:=da eI c.ranges i hq
      have hft:=fH eI c.ranges i hq
      have hlS:(T4.app ((c.ranges.take i).map eI).flatten).len=T4.len+aM ((c.ranges.take i).map eI).flatten:=bf _ _
      generalize hTT:T4.app ((c.ranges.take i).map eI).flatten=TT at*
      rw[List.length_map] at e5
      rw[er] at e5
      cases e5
      obtain⟨cc,hcc,_⟩:=ej (cs:=pr q) (zs:=[.str ⟨0,0⟩, .str ⟨0,0⟩]) rfl
      obtain⟨hq1,hq2⟩:=hok.ranges q (List.mem_of_getElem? hq)
      have hlq:aM (eI q)=8+q.1.len+(8+q.2.len):=by rw[eI,aA,bg,bg]
      (repeat(first|refine uS ?_ |refine aa rfl ?_));refine ad (by simp(disch:=omega) only[uB,uT,aQ eP fQ,cE qV rfl fQ k2 k3,Int.toNat_natCast,bQ sD rfl,AV.cells,Bq hcc];exact rfl) ?_;(repeat(first|refine uS ?_ |refine aa rfl ?_))
      refine dy hcc fun t2 hn2 hm2 gx=>?_
      obtain⟨H5,g2,hup,_,hlow⟩:=g1.Ei hm2
      have gy:∀ {s' S'},WS t2 H5 b s' S'→Bx s' t1.nx (pr q):=fun hx=>gx.mod hx.m (fun e=>Nat.lt_irrefl _ (hlow _ e))
      repeat(first|refine uS ?_ |refine aa rfl ?_ |refine ad (by simp(disch:=omega) only[uB,uT,tW,Nat.zero_add,gx.ld (i:=0) rfl aE rfl aF];exact rfl) ?_)
      refine aj (g2.text ho.num hq1 (by omega)) ?_ ?_
      ·rintro r t3 ⟨t3',e3,g3⟩
       cases e3
       refine uL ?_
       have l3:(TT.app (cU q.1)).len=TT.len+(8+q.1.len):=by rw[bf,bg]
       repeat(first|refine uS ?_ |refine aa rfl ?_ |refine ad (by simp(disch:=omega) only[uB,uT,tR,Nat.zero_add,(gy g3).ld (i:=1) rfl aE rfl aF];exact rfl) ?_)
       refine aj (g3.text ho.num hq2 (by omega)) ?_ ?_
       ·rintro r t4 ⟨t4',e4,g4⟩
        cases e4
        refine uL ?_
        refine uG ?_
        refine aH (i+1) [(0, .ptr (some (b,0))),(3, .ptr (some (s.nx,0))),(43, .slc (some (b5,off5,2)) c.ranges.length cr xr),(44, .int .i64 (c.ranges.length:Int)),(45, .int .i64 ((i+1:Nat):Int))] ⟨?_,by omega,rfl⟩ (by show c.ranges.length- (i+1)<c.ranges.length- i;omega) (by simp[aI,az])
        rw[hft,bw,hTT,eI,bw]
        exact hup _ _ g4
       ·rintro r s' ⟨_,e2,_⟩
        cases e2
      ·rintro r s' ⟨_,e2,_⟩
       cases e2
     ·simp at hc2
      have:i=c.ranges.length:=by omega
      subst this
      rw[List.take_length] at g1
      refine uG ?_
      exact cG [(0, .ptr (some (b,0))),(3, .ptr (some (s.nx,0)))] ⟨rfl,g1⟩ (by simp[aI,az])
    ·rintro L s5 ⟨rfl,h5⟩
     have hS5:T4.app (c.ranges.map eI).flatten=S.app (bJ c++dg c):=by rw[bw,←hT4];rfl
     rw[hS5] at h5
     have hl5:(S.app (bJ c++dg c)).len=S.len+(aM (bJ c)+aM (dg c)):=by rw[bf,aA]
     repeat(first|refine uS ?_ |refine aa rfl ?_ |refine ad (by simp(disch:=omega) only[uB,uT,gS,Nat.zero_add,gw h5,ji];exact rfl) ?_)
     refine aj (h5.uF ho.num [(c.writes.length:Int)] (by simp;omega)) ?_ ?_
     ·rintro r s6 ⟨s6',e6,h6⟩
      cases e6
      refine uL ?_
      refine dR ?_
      refine cJ ?_
      have hwl:=hc.wl
      have hS6:((S.app (bJ c++dg c)).app ([(c.writes.length:Int)].map aY)).len=S.len+(aM (bJ c)+aM (dg c))+8:=by rw[bf,hl5];rfl
      generalize hT6:(S.app (bJ c++dg c)).app ([(c.writes.length:Int)].map aY)=T6 at*
      refine fP (fun L s'=>L=[(0, .ptr (some (b,0))),(3, .ptr (some (s.nx,0)))]∧WS s1 H b s' (T6.app (c.writes.map dL).flatten)) ?_ ?_
      ·repeat(first|refine uS ?_ |refine aa rfl ?_ |refine ad (by simp(disch:=omega) only[uB,uT,gS,Nat.zero_add,gw h6];exact rfl) ?_)
       let I:Nat→Sl→St→Prop:=fun i L s'=>WS s1 H b s' (T6.app ((c.writes.take i).map dL).flatten)∧i≤c.writes.length∧L=[(0, .ptr (some (b,0))),(3, .ptr (some (s.nx,0))),(65, .slc aw c.writes.length cw xw),(66, .int .i64 (c.writes.length:Int)),(67, .int .i64 (i:Int))]
       refine WL.less (M:=[(0, .ptr (some (b,0))),(3, .ptr (some (s.nx,0))),(65, .slc aw c.writes.length cw xw),(66, .int .i64 (c.writes.length:Int)),(67, .int .i64 ((0:Nat):Int))]) ?_ rfl
       refine aV I (fun i=>c.writes.length- i) ?_ c.writes.length 0 _ _ (by simp) ⟨h6,Nat.zero_le _,rfl⟩
       rintro i L t1 ⟨g1,hi,rfl⟩
       refine uG ?_
       refine uJ [0,3,65,66,67,68] ?_
       refine ae rfl rfl (fun hc2=>?_) (fun hc2=>?_)
       ·simp at hc2
        obtain⟨q,hq⟩:∃q,c.writes[i]? =some q:=⟨_,List.getElem?_eq_getElem (by omega)⟩
        obtain⟨b5,off5,c5,x5,t5,n5,e5,_,k2,k3⟩:=(hc1.w.mod g1.m fun d hd=>hz d (.inl (.inr (.inr hd)))).at (i:=i) (r:=wrt q) (by simp[hq])
        have hlt:=da dL c.writes i hq
        have hft:=fH dL c.writes i hq
        have hlS:(T6.app ((c.writes.take i).map dL).flatten).len=T6.len+aM ((c.writes.take i).map dL).flatten:=bf _ _
        generalize hTT:T6.app ((c.writes.take i).map dL).flatten=TT at*
        rw[List.length_map] at e5
        rw[ew] at e5
        cases e5
        obtain⟨cc,hcc,_⟩:=ej (cs:=wrt q) (zs:=[.str ⟨0,0⟩, .str ⟨0,0⟩, .bool false]) rfl
        obtain⟨hq1,hq2⟩:=hok.writes q (List.mem_of_getElem? hq)
        have hlq:aM (dL q)=8+q.1.len+(8+q.2.1.len)+8:=by rw[dL,aA,aA,bg,bg];rfl
        (repeat(first|refine uS ?_ |refine aa rfl ?_));refine ad (by simp(disch:=omega) only[uB,uT,aQ ct bT,cE m4 rfl bT k2 k3,Int.toNat_natCast,bQ mK rfl,AV.cells,qb hcc];exact rfl) ?_;(repeat(first|refine uS ?_ |refine aa rfl ?_))
        refine dy hcc fun t2 hn2 hm2 gx=>?_
        obtain⟨H5,g2,hup,_,hlow⟩:=g1.Ei hm2
        have gy:∀ {s' S'},WS t2 H5 b s' S'→Bx s' t1.nx (wrt q):=fun hx=>gx.mod hx.m (fun e=>Nat.lt_irrefl _ (hlow _ e))
        repeat(first|refine uS ?_ |refine aa rfl ?_ |refine ad (by simp(disch:=omega) only[uB,uT,iD,Nat.zero_add,gx.ld (i:=0) rfl aE rfl aF];exact rfl) ?_)
        refine aj (g2.text ho.num hq1 (by omega)) ?_ ?_
        ·rintro r t3 ⟨t3',e3,g3⟩
         cases e3
         refine uL ?_
         have l3:(TT.app (cU q.1)).len=TT.len+(8+q.1.len):=by rw[bf,bg]
         repeat(first|refine uS ?_ |refine aa rfl ?_ |refine ad (by simp(disch:=omega) only[uB,uT,kj,Nat.zero_add,(gy g3).ld (i:=1) rfl aE rfl aF];exact rfl) ?_)
         refine aj (g3.text ho.num hq2 (by omega)) ?_ ?_
         ·rintro r t4 ⟨t4',e4,g4⟩
          cases e4
          refine uL ?_
          have l4:((TT.app (cU q.1)).app (cU q.2.1)).len=TT.len+(8+q.1.len)+(8+q.2.1.len):=by rw[bf,l3,bg]
          have fini:∀ {m:Int} {t5:St} {L:Sl},m=(if q.2.2=true then 1 else 0)→WS t2 H5 b t5 (((TT.app (cU q.1)).app (cU q.2.1)).app ([m].map aY))→WS s1 H b t5 (T6.app ((c.writes.take (i+1)).map dL).flatten):=fun e hx=>by
           subst e
           rw[hft,bw,hTT,dL,bw,bw]
           exact hup _ _ hx
          repeat(first|refine uS ?_ |refine aa rfl ?_ |refine ad (by simp(disch:=omega) only[uB,uT,j7,Nat.zero_add,(gy g4).ld (i:=2) rfl mg rfl eC];exact rfl) ?_)
          refine uJ [0,3,10,65,66,67,80] ?_
          refine ae rfl rfl (fun hd=>?_) (fun hd=>?_)
          ·repeat(first|refine uS ?_ |refine aa rfl ?_ |refine ad (by simp(disch:=omega) only[uB,uT,ji];exact rfl) ?_)
           refine aj (g4.uF ho.num [(1:Int)] (by simp;omega)) ?_ ?_
           ·rintro r t5 ⟨t5',e5,g5⟩
            cases e5
            refine uL ?_
            refine uG ?_
            exact aH (i+1) [(0, .ptr (some (b,0))),(3, .ptr (some (s.nx,0))),(65, .slc (some (b5,off5,3)) c.writes.length cw xw),(66, .int .i64 (c.writes.length:Int)),(67, .int .i64 ((i+1:Nat):Int))] ⟨fini (L:=[]) (by rw[hd];rfl) g5,by omega,rfl⟩ (by show c.writes.length- (i+1)<c.writes.length- i;omega) (by simp[aI,az])
           ·rintro r s' ⟨_,e2,_⟩
            cases e2
          ·repeat(first|refine uS ?_ |refine aa rfl ?_ |refine ad (by simp(disch:=omega) only[uB,uT,ji];exact rfl) ?_)
           refine aj (g4.uF ho.num [(0:Int)] (by simp;omega)) ?_ ?_
           ·rintro r t5 ⟨t5',e5,g5⟩
            cases e5
            refine uL ?_
            refine uG ?_
            exact aH (i+1) [(0, .ptr (some (b,0))),(3, .ptr (some (s.nx,0))),(65, .slc (some (b5,off5,3)) c.writes.length cw xw),(66, .int .i64 (c.writes.length:Int)),(67, .int .i64 ((i+1:Nat):Int))] ⟨fini (L:=[]) (by rw[hd];rfl) g5,by omega,rfl⟩ (by show c.writes.length- (i+1)<c.writes.length- i;omega) (by simp[aI,az])
           ·rintro r s' ⟨_,e2,_⟩
            cases e2
         ·rintro r s' ⟨_,e2,_⟩
          cases e2
        ·rintro r s' ⟨_,e2,_⟩
         cases e2
       ·simp at hc2
        have:i=c.writes.length:=by omega
        subst this
        rw[List.take_length] at g1
        refine uG ?_
        exact cG [(0, .ptr (some (b,0))),(3, .ptr (some (s.nx,0)))] ⟨rfl,g1⟩ (by simp[aI,az])
      ·rintro L s7 ⟨rfl,h7⟩
       have hS7:T6.app (c.writes.map dL).flatten=S.app ((bJ c++dg c)++eZ c):=by rw[bw,←hT6];rfl
       rw[hS7] at h7
       have hl7:(S.app ((bJ c++dg c)++eZ c)).len=S.len+(aM (bJ c)+aM (dg c)+aM (eZ c)):=by rw[bf,aA,aA]
       generalize hT7:S.app ((bJ c++dg c)++eZ c)=T7 at*
       have b7:=gb h7
       repeat(first|refine uS ?_ |refine aa rfl ?_ |refine ad (by simp(disch:=omega) only[uB,uT,mA,nC,nX,Nat.zero_add,b7.ld (i:=7) rfl aN rfl ay,b7.ld (i:=8) rfl aN rfl ay,b7.ld (i:=9) rfl aN rfl ay,G9];exact rfl) ?_)
       refine aj (h7.uF ho.num [c.dl,c.after,c.held] (by simp;omega)) ?_ ?_
       ·rintro r s8 ⟨s8',e8,h8⟩
        cases e8
        refine uL ?_
        have l8:(T7.app ([c.dl,c.after,c.held].map aY)).len=T7.len+24:=by rw[bf];rfl
        repeat(first|refine uS ?_ |refine aa rfl ?_ |refine ad (by simp(disch:=omega) only[uB,uT,ie,Nat.zero_add,(gb h8).ld (i:=10) rfl aE rfl aF];exact rfl) ?_)
        refine aj (h8.text ho.num hok.text (by omega)) ?_ ?_
        ·rintro r s9 ⟨s9',e9,h9⟩
         cases e9
         refine uL ?_
         have l9:((T7.app ([c.dl,c.after,c.held].map aY)).app (cU c.text)).len=T7.len+24+(8+c.text.len):=by rw[bf,l8,bg]
         repeat(first|refine uS ?_ |refine aa rfl ?_ |refine ad (by simp(disch:=omega) only[uB,uT,iV,Nat.zero_add,(gb h9).ld (i:=11) rfl aN rfl ay,ji];exact rfl) ?_)
         refine aj (h9.uF ho.num [c.code] (by show _+8*1≤_;omega)) ?_ ?_
         ·rintro r s10 ⟨s10',e10,h10⟩
          cases e10
          refine uL ?_
          have l10:(((T7.app ([c.dl,c.after,c.held].map aY)).app (cU c.text)).app ([c.code].map aY)).len=T7.len+24+(8+c.text.len)+8:=by rw[bf,l9];rfl
          obtain⟨ax,nx',cx,xx,ex⟩:=hc.xs
          have gx12:aO X 38 (.ptr (some (s.nx,12))) s10=some (.old (.slc ax nx' cx xx)):=by rw[←ex];exact(gb h10).ld (i:=12) rfl eO rfl jt
          rw[ex] at hr1
          repeat(first|refine uS ?_ |refine aa rfl ?_ |refine ad (by simp(disch:=omega) only[uB,uT,dI,Nat.zero_add,gx12];exact rfl) ?_)
          refine aj (Fc ho.num ho.rows h10 hr1 (fun d hd=>hz d (.inr hd)) hok.rows (by omega)) ?_ ?_
          ·rintro r s11 ⟨s11',e11,h11⟩
           cases e11
           refine uL ?_
           refine uG ?_
           have hSe:(((T7.app ([c.dl,c.after,c.held].map aY)).app (cU c.text)).app ([c.code].map aY)).app (dQ c.rows)=S.app (cI c):=by
            rw[cI,bw,hT7,jq,bw,bw,bw];rfl
           rw[hSe] at h11
           exact fC rfl (fin h11)
          ·rintro r s' ⟨_,e2,_⟩
           cases e2
         ·rintro r s' ⟨_,e2,_⟩
          cases e2
        ·rintro r s' ⟨_,e2,_⟩
         cases e2
       ·rintro r s' ⟨_,e2,_⟩
        cases e2
     ·rintro r s' ⟨_,e2,_⟩
      cases e2
   ·rintro r s' ⟨_,e2,_⟩
    cases e2
 ·rintro r s' ⟨_,e2,_⟩
  cases e2
end
end Go.Proofs.Ytofohkdkpbigiaa
end
