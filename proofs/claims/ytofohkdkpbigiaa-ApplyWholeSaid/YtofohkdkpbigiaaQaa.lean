/-
  A part of the texts.
-/
import Derived.Orders
section
namespace Go.Am
def mC (o:Oper):Bool:=
 match o.op with
 | .move _| .pick _ _ _| .alloc _| .box _ _| .build _ _| .buildSlice _ _ _| .load _ _| .nilCheck _| .binOp _ _ _ _ _| .unOp _ _ _| .makeInterface _ _
 | .makeFunc _ _ _| .makeMap _ _| .makeSlice _ _ _| .slice _ _ _ _ _| .fieldAddr _ _ _| .field _ _ _| .indexAddr _ _ _| .index _ _ _| .lookup _ _ _ _| .extract _ _=>false
 | .convert _ _ _=>false
 | .call c=>match c.callee with
  | .builtin .len| .builtin .cap| .builtin .max| .builtin .min=>false
  | _=>true
 | _=>true
def m8 (o:Oper):Bool:=
 match o.op with
 | .alloc _| .box _ _| .buildSlice _ _ _| .makeMap _ _| .makeSlice _ _ _| .convert _ _ _=>true
 | _=>false
def onB (e:Edge):Bool:=match e.ground with
 | .textOnly _| .gcOnly _=>false
 | _=>true
def bS (o:Oper)(i:Nat):Bool:=o.after.toList.any fun e=>onB e&&Nat.beq e.on i
def ef (ops:Array Oper):List (Nat×Oper):=ops.toList.zipIdx.map fun(o,i)=>(i,o)
def C7 (t:Nat):List Nat→Bool
 |[]=>false
 |x::l=>Nat.beq t x||C7 t l
def isDst (o:Oper)(d:Nat):Bool:=match o.dst with
 |some t=>Nat.beq t d
 |none=>false
def behind (ops:Array Oper)(i d:Nat)(jo:Nat×Oper):Bool:=match Nat.beq i jo.1 with
 |true=> !C7 d (jo.2.looksAt ops)
 |false=> !isDst jo.2 d&& (!C7 d (jo.2.looksAt ops)||bS jo.2 i)
def BO (ops:Array Oper)(oi:Oper)(i:Nat)(jo:Nat×Oper):Bool:=Nat.beq i jo.1||match jo.2.dst with
 |some d=> !C7 d (oi.looksAt ops)||bS oi jo.1
 |none=>true
def zQ (ops:Array Oper)(l:List (Nat×Oper))(io:Nat×Oper):Bool:=
 (mC io.2||match io.2.dst with
  |none=>true
  |some d=>l.all (behind ops io.1 d))&&
 (!m8 io.2||l.all (BO ops io.2 io.1))
def qF (ops:Array Oper):Bool:=(ef ops).all (zQ ops (ef ops))
def gz (o:Oper):Bool:=match o.op with
 | .defer _=>false
 | _=>true
def quiet:Code→Bool
 | .region _ ops _=>ops.toList.all gz
 | .seq a b=>quiet a&&quiet b
 | .cond _ a b=>quiet a&&quiet b
 | .block _ b=>quiet b
 | .loop b=>quiet b
 | .scope b=>quiet b
 | .rangeFunc _ _ _ _=>false
 | _=>true
def mH (n:Nat)(o:Oper):Bool:=match o.dst with
 |some d=>Nat.blt d n
 |none=>true
def dj (n:Nat):Code→Bool
 | .region _ ops draw=>ops.toList.all (mH n)&& (!draw||qF ops)
 | .seq a b=>dj n a&&dj n b
 | .cond _ a b=>dj n a&&dj n b
 | .block _ b=>dj n b
 | .loop b=>dj n b
 | .scope b=>dj n b
 | .rangeFunc _ ps a b=>(dj n a&&dj n b)&& ((quiet a&&quiet b)&&ps.toList.all fun p=>Nat.blt p n)
 | _=>true
def sU (fn:Func):Bool:=match fn.body with
 |some c=>dj fn.ntmps c&& (fn.name != "runtime.NumGoroutine" &&Nat.ble fn.ntmps 1000000000)
 |none=>true
end Go.Am
end
section
namespace Go.Am
noncomputable section
inductive N8 (β:Type) where
 |mk (a b c d e f g h:β)
structure SB (α β:Type) where
 f:{γ:Type}→Option α→β→(β→γ)→γ
structure GB (α β:Type) where
 f:β→Option α
structure Lev (α β:Type) where
 emp:β
 set:Nat→SB α β
 get:Nat→GB α β
universe u
def dig {γ:Type u}(x0 x1 x2 x3 x4 x5 x6 x7:γ)(d:Nat):γ:=
 Bool.rec (motive:=fun _=>γ) (Bool.rec (motive:=fun _=>γ) (Bool.rec (motive:=fun _=>γ) x7 x6 (Nat.beq d 6)) (Bool.rec (motive:=fun _=>γ) x5 x4 (Nat.beq d 4)) (Nat.ble d 5)) (Bool.rec (motive:=fun _=>γ) (Bool.rec (motive:=fun _=>γ) x3 x2 (Nat.beq d 2)) (Bool.rec (motive:=fun _=>γ) x1 x0 (Nat.beq d 0)) (Nat.ble d 1)) (Nat.ble d 3)
section
variable {α β:Type}
def Lev.A2 (α:Type)(k:Nat):SB α (N8 (Option α)):=dig
  ⟨fun{γ} x t k'=>N8.rec (motive:=fun _=>γ) (fun _ b c d e f g h=>k' (.mk x b c d e f g h)) t⟩
  ⟨fun{γ} x t k'=>N8.rec (motive:=fun _=>γ) (fun a _ c d e f g h=>k' (.mk a x c d e f g h)) t⟩
  ⟨fun{γ} x t k'=>N8.rec (motive:=fun _=>γ) (fun a b _ d e f g h=>k' (.mk a b x d e f g h)) t⟩
  ⟨fun{γ} x t k'=>N8.rec (motive:=fun _=>γ) (fun a b c _ e f g h=>k' (.mk a b c x e f g h)) t⟩
  ⟨fun{γ} x t k'=>N8.rec (motive:=fun _=>γ) (fun a b c d _ f g h=>k' (.mk a b c d x f g h)) t⟩
  ⟨fun{γ} x t k'=>N8.rec (motive:=fun _=>γ) (fun a b c d e _ g h=>k' (.mk a b c d e x g h)) t⟩
  ⟨fun{γ} x t k'=>N8.rec (motive:=fun _=>γ) (fun a b c d e f _ h=>k' (.mk a b c d e f x h)) t⟩
  ⟨fun{γ} x t k'=>N8.rec (motive:=fun _=>γ) (fun a b c d e f g _=>k' (.mk a b c d e f g x)) t⟩ k
def Lev.xj (α:Type)(k:Nat):GB α (N8 (Option α)):=dig
  ⟨fun t=>N8.rec (motive:=fun _=>Option α) (fun a _ _ _ _ _ _ _=>a) t⟩
  ⟨fun t=>N8.rec (motive:=fun _=>Option α) (fun _ a _ _ _ _ _ _=>a) t⟩
  ⟨fun t=>N8.rec (motive:=fun _=>Option α) (fun _ _ a _ _ _ _ _=>a) t⟩
  ⟨fun t=>N8.rec (motive:=fun _=>Option α) (fun _ _ _ a _ _ _ _=>a) t⟩
  ⟨fun t=>N8.rec (motive:=fun _=>Option α) (fun _ _ _ _ a _ _ _=>a) t⟩
  ⟨fun t=>N8.rec (motive:=fun _=>Option α) (fun _ _ _ _ _ a _ _=>a) t⟩
  ⟨fun t=>N8.rec (motive:=fun _=>Option α) (fun _ _ _ _ _ _ a _=>a) t⟩
  ⟨fun t=>N8.rec (motive:=fun _=>Option α) (fun _ _ _ _ _ _ _ a=>a) t⟩ k
def Lev.um (L:Lev α β)(w k:Nat):SB α (N8 β):=dig
  ⟨fun{γ} x t k'=>N8.rec (motive:=fun _=>γ) (fun a b c d e f g h=>(L.set (Nat.mod k w)).f x a fun a=>k' (.mk a b c d e f g h)) t⟩
  ⟨fun{γ} x t k'=>N8.rec (motive:=fun _=>γ) (fun a b c d e f g h=>(L.set (Nat.mod k w)).f x b fun b=>k' (.mk a b c d e f g h)) t⟩
  ⟨fun{γ} x t k'=>N8.rec (motive:=fun _=>γ) (fun a b c d e f g h=>(L.set (Nat.mod k w)).f x c fun c=>k' (.mk a b c d e f g h)) t⟩
  ⟨fun{γ} x t k'=>N8.rec (motive:=fun _=>γ) (fun a b c d e f g h=>(L.set (Nat.mod k w)).f x d fun d=>k' (.mk a b c d e f g h)) t⟩
  ⟨fun{γ} x t k'=>N8.rec (motive:=fun _=>γ) (fun a b c d e f g h=>(L.set (Nat.mod k w)).f x e fun e=>k' (.mk a b c d e f g h)) t⟩
  ⟨fun{γ} x t k'=>N8.rec (motive:=fun _=>γ) (fun a b c d e f g h=>(L.set (Nat.mod k w)).f x f fun f=>k' (.mk a b c d e f g h)) t⟩
  ⟨fun{γ} x t k'=>N8.rec (motive:=fun _=>γ) (fun a b c d e f g h=>(L.set (Nat.mod k w)).f x g fun g=>k' (.mk a b c d e f g h)) t⟩
  ⟨fun{γ} x t k'=>N8.rec (motive:=fun _=>γ) (fun a b c d e f g h=>(L.set (Nat.mod k w)).f x h fun h=>k' (.mk a b c d e f g h)) t⟩ (Nat.div k w)
def Lev.oT (L:Lev α β)(w k:Nat):GB α (N8 β):=dig
  ⟨fun t=>N8.rec (motive:=fun _=>Option α) (fun a _ _ _ _ _ _ _=>(L.get (Nat.mod k w)).f a) t⟩
  ⟨fun t=>N8.rec (motive:=fun _=>Option α) (fun _ a _ _ _ _ _ _=>(L.get (Nat.mod k w)).f a) t⟩
  ⟨fun t=>N8.rec (motive:=fun _=>Option α) (fun _ _ a _ _ _ _ _=>(L.get (Nat.mod k w)).f a) t⟩
  ⟨fun t=>N8.rec (motive:=fun _=>Option α) (fun _ _ _ a _ _ _ _=>(L.get (Nat.mod k w)).f a) t⟩
  ⟨fun t=>N8.rec (motive:=fun _=>Option α) (fun _ _ _ _ a _ _ _=>(L.get (Nat.mod k w)).f a) t⟩
  ⟨fun t=>N8.rec (motive:=fun _=>Option α) (fun _ _ _ _ _ a _ _=>(L.get (Nat.mod k w)).f a) t⟩
  ⟨fun t=>N8.rec (motive:=fun _=>Option α) (fun _ _ _ _ _ _ a _=>(L.get (Nat.mod k w)).f a) t⟩
  ⟨fun t=>N8.rec (motive:=fun _=>Option α) (fun _ _ _ _ _ _ _ a=>(L.get (Nat.mod k w)).f a) t⟩ (Nat.div k w)
def Lev.up (L:Lev α β)(w:Nat):Lev α (N8 β):=
 ⟨.mk L.emp L.emp L.emp L.emp L.emp L.emp L.emp L.emp,L.um w,L.oT w⟩
structure Lev.OK (L:Lev α β)(w:Nat):Prop where
 pos:0<w
 ge:∀k,k<w→(L.get k).f L.emp=none
 gs:∀k x t,k<w→(L.get k).f ((L.set k).f x t id)=x
 gn:∀k j x t,k<w→j<w→j≠k→(L.get j).f ((L.set k).f x t id)=(L.get j).f t
 fr:∀ {γ:Type} (k:Nat) (x:Option α) (t:β) (k':β→γ),(L.set k).f x t k'=k' ((L.set k).f x t id)
theorem zp {d:Nat}(h:d<8):d=0∨d=1∨d=2∨d=3∨d=4∨d=5∨d=6∨d=7:=by omega
theorem DF {γ:Type u}{p:γ→Prop}{x0 x1 x2 x3 x4 x5 x6 x7:γ}(h0:p x0)(h1:p x1)(h2:p x2)(h3:p x3)(h4:p x4)(h5:p x5)(h6:p x6)(h7:p x7)(d:Nat):p (dig x0 x1 x2 x3 x4 x5 x6 x7 d):=by
 unfold dig
 cases Nat.ble d 3<;>cases Nat.ble d 5<;>cases Nat.ble d 1<;>cases Nat.beq d 6<;>cases Nat.beq d 4<;>cases Nat.beq d 2<;>cases Nat.beq d 0<;>assumption
def tk (α:Type):Lev α (N8 (Option α)):=⟨.mk none none none none none none none none,Lev.A2 α,Lev.xj α⟩
theorem fU (α:Type):(tk α).OK 8 where
 pos:=by omega
 ge:=fun k hk=>by
  show(Lev.xj α k).f _=none
  unfold Lev.xj
  rcases zp hk with h|h|h|h|h|h|h|h<;>rw[h]<;>rfl
 gs:=fun k x t hk=>by
  show(Lev.xj α k).f ((Lev.A2 α k).f x t id)=x
  unfold Lev.xj Lev.A2
  cases t
  rcases zp hk with h|h|h|h|h|h|h|h<;>rw[h]<;>rfl
 gn:=fun k j x t hk hj hne=>by
  show(Lev.xj α j).f ((Lev.A2 α k).f x t id)=(Lev.xj α j).f t
  unfold Lev.xj Lev.A2
  cases t
  rcases zp hk with h|h|h|h|h|h|h|h<;>rcases zp hj with h'|h'|h'|h'|h'|h'|h'|h'<;>first
   |(exfalso;omega)
   |(rw[h,h'];rfl)
 fr:=fun{γ} k x t k'=>by
  show(Lev.A2 α k).f x t k'=k' ((Lev.A2 α k).f x t id)
  unfold Lev.A2
  cases t
  exact DF (p:=fun s:SB α (N8 (Option α))=>s.f x _ k'=k' (s.f x _ id)) rfl rfl rfl rfl rfl rfl rfl rfl k
theorem Lev.xP {L:Lev α β}{w:Nat}(hL:L.OK w):(L.up w).OK (8*w) where
 pos:=by have:=hL.pos;omega
 ge:=fun k hk=>by
  have hd:Nat.div k w<8:=Nat.div_lt_of_lt_mul (by omega)
  have hm:Nat.mod k w<w:=Nat.mod_lt _ hL.pos
  show(L.oT w k).f _=none
  unfold Lev.oT
  rcases zp hd with h|h|h|h|h|h|h|h<;>rw[h]<;>exact hL.ge _ hm
 gs:=fun k x t hk=>by
  have hd:Nat.div k w<8:=Nat.div_lt_of_lt_mul (by omega)
  have hm:Nat.mod k w<w:=Nat.mod_lt _ hL.pos
  show(L.oT w k).f ((L.um w k).f x t id)=x
  unfold Lev.oT Lev.um
  cases t
  rcases zp hd with h|h|h|h|h|h|h|h<;>rw[h]<;>exact(congrArg (GB.f _) (hL.fr (Nat.mod k w) x _ _)).trans (hL.gs _ _ _ hm)
 gn:=fun k j x t hk hj hne=>by
  have hd:Nat.div k w<8:=Nat.div_lt_of_lt_mul (by omega)
  have hd':Nat.div j w<8:=Nat.div_lt_of_lt_mul (by omega)
  have hm:Nat.mod k w<w:=Nat.mod_lt _ hL.pos
  have hm':Nat.mod j w<w:=Nat.mod_lt _ hL.pos
  have hq:Nat.div j w=Nat.div k w→Nat.mod j w≠Nat.mod k w:=fun e e'=>hne (by
   have h1:=Nat.div_add_mod j w
   have h2:=Nat.div_add_mod k w
   have e1:j/w=k/w:=e
   have e2:j % w=k % w:=e'
   rw[←h1,←h2,e1,e2])
  show(L.oT w j).f ((L.um w k).f x t id)=(L.oT w j).f t
  unfold Lev.oT Lev.um
  cases t
  rcases zp hd with h|h|h|h|h|h|h|h<;>rcases zp hd' with h'|h'|h'|h'|h'|h'|h'|h'<;>rw[h,h']<;>
   first
   |exact(congrArg (GB.f _) (hL.fr (Nat.mod k w) x _ _)).trans rfl
   |(rw[h,h'] at hq;exact(congrArg (GB.f _) (hL.fr (Nat.mod k w) x _ _)).trans (hL.gn _ _ _ _ hm hm' (hq rfl)))
 fr:=fun{γ} k x t k'=>by
  show(L.um w k).f x t k'=k' ((L.um w k).f x t id)
  unfold Lev.um
  cases t
  refine DF (p:=fun s:SB α (N8 β)=>s.f x _ k'=k' (s.f x _ id)) ?_ ?_ ?_ ?_ ?_ ?_ ?_ ?_ _<;>(simp only[id];rw[hL.fr];conv=>rhs;rw[hL.fr])
end
section
variable (α:Type)
abbrev T1:Type:=N8 (Option α)
abbrev T2:Type:=N8 (T1 α)
abbrev T3:Type:=N8 (T2 α)
abbrev T4:Type:=N8 (T3 α)
abbrev T5:Type:=N8 (T4 α)
abbrev T6:Type:=N8 (T5 α)
abbrev T7:Type:=N8 (T6 α)
def nu:Lev α (T2 α):=(tk α).up 8
def kh:Lev α (T3 α):=(nu α).up 64
def jx:Lev α (T4 α):=(kh α).up 512
def jk:Lev α (T5 α):=(jx α).up 4096
def jv:Lev α (T6 α):=(jk α).up 32768
def lx:Lev α (T7 α):=(jv α).up 262144
theorem cZ:(nu α).OK 64:=Lev.xP (fU α)
theorem cj:(kh α).OK 512:=Lev.xP (cZ α)
theorem bP:(jx α).OK 4096:=Lev.xP (cj α)
theorem bG:(jk α).OK 32768:=Lev.xP (bP α)
theorem bC:(jv α).OK 262144:=Lev.xP (bG α)
theorem bF:(lx α).OK 2097152:=Lev.xP (bC α)
end
inductive Tl (α:Type) where
 |e
 |d1 (t:T1 α)
 |d2 (t:T2 α)
 |d3 (t:T3 α)
 |d4 (t:T4 α)
 |d5 (t:T5 α)
 |d6 (t:T6 α)
 |d7 (t:T7 α)
section
variable {α:Type}
structure GS (α:Type) where
 g1:T1 α→Option α
 g2:T2 α→Option α
 g3:T3 α→Option α
 g4:T4 α→Option α
 g5:T5 α→Option α
 g6:T6 α→Option α
 g7:T7 α→Option α
def qk {β:Type}(L:Lev α β)(w k:Nat):β→Option α:=Bool.rec (motive:=fun _=>β→Option α) (fun _=>none) (fun t=>(L.get k).f t) (Nat.ble (Nat.succ k) w)
def gs0 (α:Type)(k:Nat):GS α:=⟨((tk α).get k).f,((nu α).get k).f,((kh α).get k).f,((jx α).get k).f,((jk α).get k).f,((jv α).get k).f,((lx α).get k).f⟩
def gs1 (α:Type)(k:Nat):GS α:=⟨fun _=>none,((nu α).get k).f,((kh α).get k).f,((jx α).get k).f,((jk α).get k).f,((jv α).get k).f,((lx α).get k).f⟩
def gs2 (α:Type)(k:Nat):GS α:=⟨fun _=>none,fun _=>none,((kh α).get k).f,((jx α).get k).f,((jk α).get k).f,((jv α).get k).f,((lx α).get k).f⟩
def gs3 (α:Type)(k:Nat):GS α:=⟨fun _=>none,fun _=>none,fun _=>none,((jx α).get k).f,((jk α).get k).f,((jv α).get k).f,((lx α).get k).f⟩
def gs4 (α:Type)(k:Nat):GS α:=⟨fun _=>none,fun _=>none,fun _=>none,fun _=>none,((jk α).get k).f,((jv α).get k).f,((lx α).get k).f⟩
def gs5 (α:Type)(k:Nat):GS α:=⟨fun _=>none,fun _=>none,fun _=>none,fun _=>none,fun _=>none,((jv α).get k).f,((lx α).get k).f⟩
def gs6 (α:Type)(k:Nat):GS α:=⟨fun _=>none,fun _=>none,fun _=>none,fun _=>none,fun _=>none,fun _=>none,((lx α).get k).f⟩
def gs7 (α:Type)(_:Nat):GS α:=⟨fun _=>none,fun _=>none,fun _=>none,fun _=>none,fun _=>none,fun _=>none,fun _=>none⟩
def iZ (α:Type)(k:Nat):GS α:=Bool.rec (motive:=fun _=>GS α) (Bool.rec (motive:=fun _=>GS α) (Bool.rec (motive:=fun _=>GS α) (Bool.rec (motive:=fun _=>GS α) (Bool.rec (motive:=fun _=>GS α) (Bool.rec (motive:=fun _=>GS α) (Bool.rec (motive:=fun _=>GS α) (gs7 α k) (gs6 α k) (Nat.ble (Nat.succ k) 2097152)) (gs5 α k) (Nat.ble (Nat.succ k) 262144)) (gs4 α k) (Nat.ble (Nat.succ k) 32768)) (gs3 α k) (Nat.ble (Nat.succ k) 4096)) (gs2 α k) (Nat.ble (Nat.succ k) 512)) (gs1 α k) (Nat.ble (Nat.succ k) 64)) (gs0 α k) (Nat.ble (Nat.succ k) 8)
structure GT (α:Type) where
 f:Tl α→Option α
def Qb (α:Type)(k:Nat):GT α:=⟨fun t=>Tl.rec (motive:=fun _=>Option α) none (iZ α k).g1 (iZ α k).g2 (iZ α k).g3 (iZ α k).g4 (iZ α k).g5 (iZ α k).g6 (iZ α k).g7 t⟩
def Tl.get (t:Tl α)(k:Nat):Option α:=(Qb α k).f t
def N8.fst {β:Type}(t e:β):N8 β:= .mk t e e e e e e e
structure SS (α:Type) where
 p0:{γ:Type}→Option α→(Tl α→γ)→γ
 p1:{γ:Type}→Option α→T1 α→(Tl α→γ)→γ
 p2:{γ:Type}→Option α→T2 α→(Tl α→γ)→γ
 p3:{γ:Type}→Option α→T3 α→(Tl α→γ)→γ
 p4:{γ:Type}→Option α→T4 α→(Tl α→γ)→γ
 p5:{γ:Type}→Option α→T5 α→(Tl α→γ)→γ
 p6:{γ:Type}→Option α→T6 α→(Tl α→γ)→γ
 p7:{γ:Type}→Option α→T7 α→(Tl α→γ)→γ
def ss1 (α:Type)(k:Nat):SS α:=⟨fun x k'=>((tk α).set k).f x (tk α).emp fun t=>k' (.d1 t),fun x t k'=>((tk α).set k).f x t fun t=>k' (.d1 t),fun x t k'=>((nu α).set k).f x t fun t=>k' (.d2 t),fun x t k'=>((kh α).set k).f x t fun t=>k' (.d3 t),fun x t k'=>((jx α).set k).f x t fun t=>k' (.d4 t),fun x t k'=>((jk α).set k).f x t fun t=>k' (.d5 t),fun x t k'=>((jv α).set k).f x t fun t=>k' (.d6 t),fun x t k'=>((lx α).set k).f x t fun t=>k' (.d7 t)⟩
def ss2 (α:Type)(k:Nat):SS α:=⟨fun x k'=>((nu α).set k).f x (nu α).emp fun t=>k' (.d2 t),fun x t k'=>((nu α).set k).f x (.fst t (tk α).emp) fun t=>k' (.d2 t),fun x t k'=>((nu α).set k).f x t fun t=>k' (.d2 t),fun x t k'=>((kh α).set k).f x t fun t=>k' (.d3 t),fun x t k'=>((jx α).set k).f x t fun t=>k' (.d4 t),fun x t k'=>((jk α).set k).f x t fun t=>k' (.d5 t),fun x t k'=>((jv α).set k).f x t fun t=>k' (.d6 t),fun x t k'=>((lx α).set k).f x t fun t=>k' (.d7 t)⟩
def ss3 (α:Type)(k:Nat):SS α:=⟨fun x k'=>((kh α).set k).f x (kh α).emp fun t=>k' (.d3 t),fun x t k'=>((kh α).set k).f x (.fst (.fst t (tk α).emp) (nu α).emp) fun t=>k' (.d3 t),fun x t k'=>((kh α).set k).f x (.fst t (nu α).emp) fun t=>k' (.d3 t),fun x t k'=>((kh α).set k).f x t fun t=>k' (.d3 t),fun x t k'=>((jx α).set k).f x t fun t=>k' (.d4 t),fun x t k'=>((jk α).set k).f x t fun t=>k' (.d5 t),fun x t k'=>((jv α).set k).f x t fun t=>k' (.d6 t),fun x t k'=>((lx α).set k).f x t fun t=>k' (.d7 t)⟩
def ss4 (α:Type)(k:Nat):SS α:=⟨fun x k'=>((jx α).set k).f x (jx α).emp fun t=>k' (.d4 t),fun x t k'=>((jx α).set k).f x (.fst (.fst (.fst t (tk α).emp) (nu α).emp) (kh α).emp) fun t=>k' (.d4 t),fun x t k'=>((jx α).set k).f x (.fst (.fst t (nu α).emp) (kh α).emp) fun t=>k' (.d4 t),fun x t k'=>((jx α).set k).f x (.fst t (kh α).emp) fun t=>k' (.d4 t),fun x t k'=>((jx α).set k).f x t fun t=>k' (.d4 t),fun x t k'=>((jk α).set k).f x t fun t=>k' (.d5 t),fun x t k'=>((jv α).set k).f x t fun t=>k' (.d6 t),fun x t k'=>((lx α).set k).f x t fun t=>k' (.d7 t)⟩
def ss5 (α:Type)(k:Nat):SS α:=⟨fun x k'=>((jk α).set k).f x (jk α).emp fun t=>k' (.d5 t),fun x t k'=>((jk α).set k).f x (.fst (.fst (.fst (.fst t (tk α).emp) (nu α).emp) (kh α).emp) (jx α).emp) fun t=>k' (.d5 t),fun x t k'=>((jk α).set k).f x (.fst (.fst (.fst t (nu α).emp) (kh α).emp) (jx α).emp) fun t=>k' (.d5 t),fun x t k'=>((jk α).set k).f x (.fst (.fst t (kh α).emp) (jx α).emp) fun t=>k' (.d5 t),fun x t k'=>((jk α).set k).f x (.fst t (jx α).emp) fun t=>k' (.d5 t),fun x t k'=>((jk α).set k).f x t fun t=>k' (.d5 t),fun x t k'=>((jv α).set k).f x t fun t=>k' (.d6 t),fun x t k'=>((lx α).set k).f x t fun t=>k' (.d7 t)⟩
def ss6 (α:Type)(k:Nat):SS α:=⟨fun x k'=>((jv α).set k).f x (jv α).emp fun t=>k' (.d6 t),fun x t k'=>((jv α).set k).f x (.fst (.fst (.fst (.fst (.fst t (tk α).emp) (nu α).emp) (kh α).emp) (jx α).emp) (jk α).emp) fun t=>k' (.d6 t),fun x t k'=>((jv α).set k).f x (.fst (.fst (.fst (.fst t (nu α).emp) (kh α).emp) (jx α).emp) (jk α).emp) fun t=>k' (.d6 t),fun x t k'=>((jv α).set k).f x (.fst (.fst (.fst t (kh α).emp) (jx α).emp) (jk α).emp) fun t=>k' (.d6 t),fun x t k'=>((jv α).set k).f x (.fst (.fst t (jx α).emp) (jk α).emp) fun t=>k' (.d6 t),fun x t k'=>((jv α).set k).f x (.fst t (jk α).emp) fun t=>k' (.d6 t),fun x t k'=>((jv α).set k).f x t fun t=>k' (.d6 t),fun x t k'=>((lx α).set k).f x t fun t=>k' (.d7 t)⟩
def ss7 (α:Type)(k:Nat):SS α:=⟨fun x k'=>((lx α).set k).f x (lx α).emp fun t=>k' (.d7 t),fun x t k'=>((lx α).set k).f x (.fst (.fst (.fst (.fst (.fst (.fst t (tk α).emp) (nu α).emp) (kh α).emp) (jx α).emp) (jk α).emp) (jv α).emp) fun t=>k' (.d7 t),fun x t k'=>((lx α).set k).f x (.fst (.fst (.fst (.fst (.fst t (nu α).emp) (kh α).emp) (jx α).emp) (jk α).emp) (jv α).emp) fun t=>k' (.d7 t),fun x t k'=>((lx α).set k).f x (.fst (.fst (.fst (.fst t (kh α).emp) (jx α).emp) (jk α).emp) (jv α).emp) fun t=>k' (.d7 t),fun x t k'=>((lx α).set k).f x (.fst (.fst (.fst t (jx α).emp) (jk α).emp) (jv α).emp) fun t=>k' (.d7 t),fun x t k'=>((lx α).set k).f x (.fst (.fst t (jk α).emp) (jv α).emp) fun t=>k' (.d7 t),fun x t k'=>((lx α).set k).f x (.fst t (jv α).emp) fun t=>k' (.d7 t),fun x t k'=>((lx α).set k).f x t fun t=>k' (.d7 t)⟩
def ss8 (α:Type)(_:Nat):SS α:=⟨fun _ k'=>k' .e,fun _ t k'=>k' (.d1 t),fun _ t k'=>k' (.d2 t),fun _ t k'=>k' (.d3 t),fun _ t k'=>k' (.d4 t),fun _ t k'=>k' (.d5 t),fun _ t k'=>k' (.d6 t),fun _ t k'=>k' (.d7 t)⟩
def aG (α:Type)(k:Nat):SS α:=Bool.rec (motive:=fun _=>SS α) (Bool.rec (motive:=fun _=>SS α) (Bool.rec (motive:=fun _=>SS α) (Bool.rec (motive:=fun _=>SS α) (Bool.rec (motive:=fun _=>SS α) (Bool.rec (motive:=fun _=>SS α) (Bool.rec (motive:=fun _=>SS α) (ss8 α k) (ss7 α k) (Nat.ble (Nat.succ k) 2097152)) (ss6 α k) (Nat.ble (Nat.succ k) 262144)) (ss5 α k) (Nat.ble (Nat.succ k) 32768)) (ss4 α k) (Nat.ble (Nat.succ k) 4096)) (ss3 α k) (Nat.ble (Nat.succ k) 512)) (ss2 α k) (Nat.ble (Nat.succ k) 64)) (ss1 α k) (Nat.ble (Nat.succ k) 8)
structure PT (α:Type) where
 f:{γ:Type}→Option α→Tl α→(Tl α→γ)→γ
def Qy (α:Type)(k:Nat):PT α:=⟨fun{γ} x t=>Tl.rec (motive:=fun _=>(Tl α→γ)→γ) ((aG α k).p0 x) ((aG α k).p1 x) ((aG α k).p2 x) ((aG α k).p3 x) ((aG α k).p4 x) ((aG α k).p5 x) ((aG α k).p6 x) ((aG α k).p7 x) t⟩
def Tl.sP {γ:Type}(t:Tl α)(k:Nat)(x:Option α)(k':Tl α→γ):γ:=(Qy α k).f x t k'
def Tl.set (t:Tl α)(k:Nat)(x:Option α):Tl α:=t.sP k x id
def Tl.put (t:Tl α)(k:Nat)(v:α):Tl α:=t.set k (some v)
def Tl.del (t:Tl α)(k:Nat):Tl α:=t.set k none
theorem jy {k w:Nat}(h:k<w):Nat.ble (Nat.succ k) w=true:=Nat.ble_eq.mpr h
theorem bU {k w:Nat}(h:w≤k):Nat.ble (Nat.succ k) w=false:=by
 cases hb:Nat.ble (Nat.succ k) w
 ·rfl
 ·have:=Nat.ble_eq.mp hb;omega
theorem dP {β:Type}(L:Lev α β)(w k:Nat)(t:β):qk L w k t=if k<w then(L.get k).f t else none:=by
 unfold qk
 by_cases h:k<w
 ·rw[jy h,if_pos h]
 ·rw[bU (by omega),if_neg h]
theorem mv {β:Type}{L:Lev α β}{w:Nat}(hL:L.OK w)(k:Nat):qk L w k L.emp=none:=by
 rw[dP]
 split
 ·rename_i h;exact hL.ge _ h
 ·rfl
theorem Hs {β:Type}{L:Lev α β}{w:Nat}(hL:L.OK w){k:Nat}(hk:k<w)(j:Nat)(x:Option α)(t:β):qk L w j ((L.set k).f x t id)=if j=k then x else qk L w j t:=by
 rw[dP,dP]
 by_cases e:j=k
 ·rw[if_pos e,e,if_pos hk,hL.gs _ _ _ hk]
 ·rw[if_neg e]
  split
  ·rename_i h;exact hL.gn _ _ _ _ hk h e
  ·rfl
theorem aS {β:Type}{L:Lev α β}{w:Nat}(hL:L.OK w)(j:Nat)(t:β):qk (L.up w) (8*w) j (.fst t L.emp)=qk L w j t:=by
 rw[dP,dP]
 have hp:=hL.pos
 by_cases h:j<w
 ·rw[if_pos h,if_pos (by omega)]
  have e:Nat.div j w=0:=Nat.div_eq_of_lt h
  have e':Nat.mod j w=j:=Nat.mod_eq_of_lt h
  show(L.oT w j).f _=_
  unfold Lev.oT
  rw[e,e']
  rfl
 ·rw[if_neg h]
  split
  ·rename_i h8
   have hd:Nat.div j w<8:=Nat.div_lt_of_lt_mul (by omega)
   have hn:Nat.div j w≠0:=fun e=>by
    have:j/w=0:=e
    rw[Nat.div_eq_zero_iff] at this
    omega
   have hm:Nat.mod j w<w:=Nat.mod_lt _ hp
   show(L.oT w j).f _=_
   unfold Lev.oT
   rcases zp hd with h|h|h|h|h|h|h|h<;>first|exact absurd h hn|(rw[h];exact hL.ge _ hm)
  ·rfl
theorem rng (k:Nat):k<8∨(8≤k∧k<64)∨(64≤k∧k<512)∨(512≤k∧k<4096)∨(4096≤k∧k<32768)∨(32768≤k∧k<262144)∨(262144≤k∧k<2097152)∨2097152≤k:=by omega
theorem qE {k:Nat}(h:k<8):iZ α k=gs0 α k:=by unfold iZ;rw[jy (by omega:k<8)]
theorem gM {k:Nat}(h:k<8):aG α k=ss1 α k:=by unfold aG;rw[jy (by omega:k<8)]
theorem qQ {k:Nat}(h:8≤k∧k<64):iZ α k=gs1 α k:=by unfold iZ;rw[bU (by omega:8≤k),jy (by omega:k<64)]
theorem gX {k:Nat}(h:8≤k∧k<64):aG α k=ss2 α k:=by unfold aG;rw[bU (by omega:8≤k),jy (by omega:k<64)]
theorem qG {k:Nat}(h:64≤k∧k<512):iZ α k=gs2 α k:=by unfold iZ;rw[bU (by omega:8≤k),bU (by omega:64≤k),jy (by omega:k<512)]
theorem gU {k:Nat}(h:64≤k∧k<512):aG α k=ss3 α k:=by unfold aG;rw[bU (by omega:8≤k),bU (by omega:64≤k),jy (by omega:k<512)]
theorem qP {k:Nat}(h:512≤k∧k<4096):iZ α k=gs3 α k:=by unfold iZ;rw[bU (by omega:8≤k),bU (by omega:64≤k),bU (by omega:512≤k),jy (by omega:k<4096)]
theorem gO {k:Nat}(h:512≤k∧k<4096):aG α k=ss4 α k:=by unfold aG;rw[bU (by omega:8≤k),bU (by omega:64≤k),bU (by omega:512≤k),jy (by omega:k<4096)]
theorem qW {k:Nat}(h:4096≤k∧k<32768):iZ α k=gs4 α k:=by unfold iZ;rw[bU (by omega:8≤k),bU (by omega:64≤k),bU (by omega:512≤k),bU (by omega:4096≤k),jy (by omega:k<32768)]
theorem gJ {k:Nat}(h:4096≤k∧k<32768):aG α k=ss5 α k:=by unfold aG;rw[bU (by omega:8≤k),bU (by omega:64≤k),bU (by omega:512≤k),bU (by omega:4096≤k),jy (by omega:k<32768)]
theorem re {k:Nat}(h:32768≤k∧k<262144):iZ α k=gs5 α k:=by unfold iZ;rw[bU (by omega:8≤k),bU (by omega:64≤k),bU (by omega:512≤k),bU (by omega:4096≤k),bU (by omega:32768≤k),jy (by omega:k<262144)]
theorem gN {k:Nat}(h:32768≤k∧k<262144):aG α k=ss6 α k:=by unfold aG;rw[bU (by omega:8≤k),bU (by omega:64≤k),bU (by omega:512≤k),bU (by omega:4096≤k),bU (by omega:32768≤k),jy (by omega:k<262144)]
theorem qH {k:Nat}(h:262144≤k∧k<2097152):iZ α k=gs6 α k:=by unfold iZ;rw[bU (by omega:8≤k),bU (by omega:64≤k),bU (by omega:512≤k),bU (by omega:4096≤k),bU (by omega:32768≤k),bU (by omega:262144≤k),jy (by omega:k<2097152)]
theorem gY {k:Nat}(h:262144≤k∧k<2097152):aG α k=ss7 α k:=by unfold aG;rw[bU (by omega:8≤k),bU (by omega:64≤k),bU (by omega:512≤k),bU (by omega:4096≤k),bU (by omega:32768≤k),bU (by omega:262144≤k),jy (by omega:k<2097152)]
theorem qS {k:Nat}(h:2097152≤k):iZ α k=gs7 α k:=by unfold iZ;rw[bU (by omega:8≤k),bU (by omega:64≤k),bU (by omega:512≤k),bU (by omega:4096≤k),bU (by omega:32768≤k),bU (by omega:262144≤k),bU (by omega:2097152≤k)]
theorem hU {k:Nat}(h:2097152≤k):aG α k=ss8 α k:=by unfold aG;rw[bU (by omega:8≤k),bU (by omega:64≤k),bU (by omega:512≤k),bU (by omega:4096≤k),bU (by omega:32768≤k),bU (by omega:262144≤k),bU (by omega:2097152≤k)]
@[simp] theorem Tl.ry (k : Nat) : (Tl.e : Tl α).get k = none := rfl
theorem Tl.m7 (t:T1 α)(k:Nat):(Tl.d1 t).get k=qk (tk α) 8 k t:=by
 show(iZ α k).g1 t=_
 rw[dP]
 rcases rng k with h|h|h|h|h|h|h|h
 ·rw[qE h,if_pos (by omega)];rfl
 ·rw[qQ h,if_neg (by omega)];rfl
 ·rw[qG h,if_neg (by omega)];rfl
 ·rw[qP h,if_neg (by omega)];rfl
 ·rw[qW h,if_neg (by omega)];rfl
 ·rw[re h,if_neg (by omega)];rfl
 ·rw[qH h,if_neg (by omega)];rfl
 ·rw[qS h,if_neg (by omega)];rfl
theorem Tl.kf (t:T2 α)(k:Nat):(Tl.d2 t).get k=qk (nu α) 64 k t:=by
 show(iZ α k).g2 t=_
 rw[dP]
 rcases rng k with h|h|h|h|h|h|h|h
 ·rw[qE h,if_pos (by omega)];rfl
 ·rw[qQ h,if_pos (by omega)];rfl
 ·rw[qG h,if_neg (by omega)];rfl
 ·rw[qP h,if_neg (by omega)];rfl
 ·rw[qW h,if_neg (by omega)];rfl
 ·rw[re h,if_neg (by omega)];rfl
 ·rw[qH h,if_neg (by omega)];rfl
 ·rw[qS h,if_neg (by omega)];rfl
theorem Tl.ju (t:T3 α)(k:Nat):(Tl.d3 t).get k=qk (kh α) 512 k t:=by
 show(iZ α k).g3 t=_
 rw[dP]
 rcases rng k with h|h|h|h|h|h|h|h
 ·rw[qE h,if_pos (by omega)];rfl
 ·rw[qQ h,if_pos (by omega)];rfl
 ·rw[qG h,if_pos (by omega)];rfl
 ·rw[qP h,if_neg (by omega)];rfl
 ·rw[qW h,if_neg (by omega)];rfl
 ·rw[re h,if_neg (by omega)];rfl
 ·rw[qH h,if_neg (by omega)];rfl
 ·rw[qS h,if_neg (by omega)];rfl
theorem Tl.hK (t:T4 α)(k:Nat):(Tl.d4 t).get k=qk (jx α) 4096 k t:=by
 show(iZ α k).g4 t=_
 rw[dP]
 rcases rng k with h|h|h|h|h|h|h|h
 ·rw[qE h,if_pos (by omega)];rfl
 ·rw[qQ h,if_pos (by omega)];rfl
 ·rw[qG h,if_pos (by omega)];rfl
 ·rw[qP h,if_pos (by omega)];rfl
 ·rw[qW h,if_neg (by omega)];rfl
 ·rw[re h,if_neg (by omega)];rfl
 ·rw[qH h,if_neg (by omega)];rfl
 ·rw[qS h,if_neg (by omega)];rfl
theorem Tl.fJ (t:T5 α)(k:Nat):(Tl.d5 t).get k=qk (jk α) 32768 k t:=by
 show(iZ α k).g5 t=_
 rw[dP]
 rcases rng k with h|h|h|h|h|h|h|h
 ·rw[qE h,if_pos (by omega)];rfl
 ·rw[qQ h,if_pos (by omega)];rfl
 ·rw[qG h,if_pos (by omega)];rfl
 ·rw[qP h,if_pos (by omega)];rfl
 ·rw[qW h,if_pos (by omega)];rfl
 ·rw[re h,if_neg (by omega)];rfl
 ·rw[qH h,if_neg (by omega)];rfl
 ·rw[qS h,if_neg (by omega)];rfl
theorem Tl.eX (t:T6 α)(k:Nat):(Tl.d6 t).get k=qk (jv α) 262144 k t:=by
 show(iZ α k).g6 t=_
 rw[dP]
 rcases rng k with h|h|h|h|h|h|h|h
 ·rw[qE h,if_pos (by omega)];rfl
 ·rw[qQ h,if_pos (by omega)];rfl
 ·rw[qG h,if_pos (by omega)];rfl
 ·rw[qP h,if_pos (by omega)];rfl
 ·rw[qW h,if_pos (by omega)];rfl
 ·rw[re h,if_pos (by omega)];rfl
 ·rw[qH h,if_neg (by omega)];rfl
 ·rw[qS h,if_neg (by omega)];rfl
theorem Tl.eD (t:T7 α)(k:Nat):(Tl.d7 t).get k=qk (lx α) 2097152 k t:=by
 show(iZ α k).g7 t=_
 rw[dP]
 rcases rng k with h|h|h|h|h|h|h|h
 ·rw[qE h,if_pos (by omega)];rfl
 ·rw[qQ h,if_pos (by omega)];rfl
 ·rw[qG h,if_pos (by omega)];rfl
 ·rw[qP h,if_pos (by omega)];rfl
 ·rw[qW h,if_pos (by omega)];rfl
 ·rw[re h,if_pos (by omega)];rfl
 ·rw[qH h,if_pos (by omega)];rfl
 ·rw[qS h,if_neg (by omega)];rfl
def bK (k:Nat)(x:Option α)(g:Nat→Option α)(t:Tl α):Prop:=∀j,t.get j=if j=k∧k<2097152 then x else g j
theorem aK {β:Type}{L:Lev α β}{w:Nat}(hL:L.OK w)(hw:w≤2097152){k:Nat}(hk:k<w){mk:β→Tl α}(hmk:∀t j,(mk t).get j=qk L w j t)(x:Option α)(t:β){g:Nat→Option α}(hg:∀j,qk L w j t=g j):
  bK k x g ((L.set k).f x t fun t=>id (mk t)):=by
 intro j
 rw[hL.fr]
 show(mk ((L.set k).f x t id)).get j=_
 rw[hmk,Hs hL hk,hg]
 by_cases e:j=k
 ·rw[if_pos e,if_pos ⟨e,by omega⟩]
 ·rw[if_neg e,if_neg (fun q=>e q.1)]
theorem iO {k:Nat}(hk:2097152≤k)(x:Option α){g:Nat→Option α}{t:Tl α}(h:∀j,t.get j=g j):bK k x g t:=fun j=>by
 rw[h,if_neg (fun q=>by omega)]
theorem Tl.p9 {γ:Type}(t:Tl α)(k:Nat)(x:Option α)(k':Tl α→γ):t.sP k x k'=k' (t.set k x):=by
 unfold Tl.set
 cases t<;>rcases rng k with h|h|h|h|h|h|h|h
 ·show(aG α k).p0 x k'=k' ((aG α k).p0 x id);rw[gM h];exact(fU α).fr k x _ _ |>.trans (congrArg k' ((fU α).fr k x _ _).symm)
 ·show(aG α k).p0 x k'=k' ((aG α k).p0 x id);rw[gX h];exact(cZ α).fr k x _ _ |>.trans (congrArg k' ((cZ α).fr k x _ _).symm)
 ·show(aG α k).p0 x k'=k' ((aG α k).p0 x id);rw[gU h];exact(cj α).fr k x _ _ |>.trans (congrArg k' ((cj α).fr k x _ _).symm)
 ·show(aG α k).p0 x k'=k' ((aG α k).p0 x id);rw[gO h];exact(bP α).fr k x _ _ |>.trans (congrArg k' ((bP α).fr k x _ _).symm)
 ·show(aG α k).p0 x k'=k' ((aG α k).p0 x id);rw[gJ h];exact(bG α).fr k x _ _ |>.trans (congrArg k' ((bG α).fr k x _ _).symm)
 ·show(aG α k).p0 x k'=k' ((aG α k).p0 x id);rw[gN h];exact(bC α).fr k x _ _ |>.trans (congrArg k' ((bC α).fr k x _ _).symm)
 ·show(aG α k).p0 x k'=k' ((aG α k).p0 x id);rw[gY h];exact(bF α).fr k x _ _ |>.trans (congrArg k' ((bF α).fr k x _ _).symm)
 ·show(aG α k).p0 x k'=k' ((aG α k).p0 x id);rw[hU h];rfl
 ·rename_i t;show(aG α k).p1 x t k'=k' ((aG α k).p1 x t id);rw[gM h];exact(fU α).fr k x _ _ |>.trans (congrArg k' ((fU α).fr k x _ _).symm)
 ·rename_i t;show(aG α k).p1 x t k'=k' ((aG α k).p1 x t id);rw[gX h];exact(cZ α).fr k x _ _ |>.trans (congrArg k' ((cZ α).fr k x _ _).symm)
 ·rename_i t;show(aG α k).p1 x t k'=k' ((aG α k).p1 x t id);rw[gU h];exact(cj α).fr k x _ _ |>.trans (congrArg k' ((cj α).fr k x _ _).symm)
 ·rename_i t;show(aG α k).p1 x t k'=k' ((aG α k).p1 x t id);rw[gO h];exact(bP α).fr k x _ _ |>.trans (congrArg k' ((bP α).fr k x _ _).symm)
 ·rename_i t;show(aG α k).p1 x t k'=k' ((aG α k).p1 x t id);rw[gJ h];exact(bG α).fr k x _ _ |>.trans (congrArg k' ((bG α).fr k x _ _).symm)
 ·rename_i t;show(aG α k).p1 x t k'=k' ((aG α k).p1 x t id);rw[gN h];exact(bC α).fr k x _ _ |>.trans (congrArg k' ((bC α).fr k x _ _).symm)
 ·rename_i t;show(aG α k).p1 x t k'=k' ((aG α k).p1 x t id);rw[gY h];exact(bF α).fr k x _ _ |>.trans (congrArg k' ((bF α).fr k x _ _).symm)
 ·rename_i t;show(aG α k).p1 x t k'=k' ((aG α k).p1 x t id);rw[hU h];rfl
 ·rename_i t;show(aG α k).p2 x t k'=k' ((aG α k).p2 x t id);rw[gM h];exact(cZ α).fr k x _ _ |>.trans (congrArg k' ((cZ α).fr k x _ _).symm)
 ·rename_i t;show(aG α k).p2 x t k'=k' ((aG α k).p2 x t id);rw[gX h];exact(cZ α).fr k x _ _ |>.trans (congrArg k' ((cZ α).fr k x _ _).symm)
 ·rename_i t;show(aG α k).p2 x t k'=k' ((aG α k).p2 x t id);rw[gU h];exact(cj α).fr k x _ _ |>.trans (congrArg k' ((cj α).fr k x _ _).symm)
 ·rename_i t;show(aG α k).p2 x t k'=k' ((aG α k).p2 x t id);rw[gO h];exact(bP α).fr k x _ _ |>.trans (congrArg k' ((bP α).fr k x _ _).symm)
 ·rename_i t;show(aG α k).p2 x t k'=k' ((aG α k).p2 x t id);rw[gJ h];exact(bG α).fr k x _ _ |>.trans (congrArg k' ((bG α).fr k x _ _).symm)
 ·rename_i t;show(aG α k).p2 x t k'=k' ((aG α k).p2 x t id);rw[gN h];exact(bC α).fr k x _ _ |>.trans (congrArg k' ((bC α).fr k x _ _).symm)
 ·rename_i t;show(aG α k).p2 x t k'=k' ((aG α k).p2 x t id);rw[gY h];exact(bF α).fr k x _ _ |>.trans (congrArg k' ((bF α).fr k x _ _).symm)
 ·rename_i t;show(aG α k).p2 x t k'=k' ((aG α k).p2 x t id);rw[hU h];rfl
 ·rename_i t;show(aG α k).p3 x t k'=k' ((aG α k).p3 x t id);rw[gM h];exact(cj α).fr k x _ _ |>.trans (congrArg k' ((cj α).fr k x _ _).symm)
 ·rename_i t;show(aG α k).p3 x t k'=k' ((aG α k).p3 x t id);rw[gX h];exact(cj α).fr k x _ _ |>.trans (congrArg k' ((cj α).fr k x _ _).symm)
 ·rename_i t;show(aG α k).p3 x t k'=k' ((aG α k).p3 x t id);rw[gU h];exact(cj α).fr k x _ _ |>.trans (congrArg k' ((cj α).fr k x _ _).symm)
 ·rename_i t;show(aG α k).p3 x t k'=k' ((aG α k).p3 x t id);rw[gO h];exact(bP α).fr k x _ _ |>.trans (congrArg k' ((bP α).fr k x _ _).symm)
 ·rename_i t;show(aG α k).p3 x t k'=k' ((aG α k).p3 x t id);rw[gJ h];exact(bG α).fr k x _ _ |>.trans (congrArg k' ((bG α).fr k x _ _).symm)
 ·rename_i t;show(aG α k).p3 x t k'=k' ((aG α k).p3 x t id);rw[gN h];exact(bC α).fr k x _ _ |>.trans (congrArg k' ((bC α).fr k x _ _).symm)
 ·rename_i t;show(aG α k).p3 x t k'=k' ((aG α k).p3 x t id);rw[gY h];exact(bF α).fr k x _ _ |>.trans (congrArg k' ((bF α).fr k x _ _).symm)
 ·rename_i t;show(aG α k).p3 x t k'=k' ((aG α k).p3 x t id);rw[hU h];rfl
 ·rename_i t;show(aG α k).p4 x t k'=k' ((aG α k).p4 x t id);rw[gM h];exact(bP α).fr k x _ _ |>.trans (congrArg k' ((bP α).fr k x _ _).symm)
 ·rename_i t;show(aG α k).p4 x t k'=k' ((aG α k).p4 x t id);rw[gX h];exact(bP α).fr k x _ _ |>.trans (congrArg k' ((bP α).fr k x _ _).symm)
 ·rename_i t;show(aG α k).p4 x t k'=k' ((aG α k).p4 x t id);rw[gU h];exact(bP α).fr k x _ _ |>.trans (congrArg k' ((bP α).fr k x _ _).symm)
 ·rename_i t;show(aG α k).p4 x t k'=k' ((aG α k).p4 x t id);rw[gO h];exact(bP α).fr k x _ _ |>.trans (congrArg k' ((bP α).fr k x _ _).symm)
 ·rename_i t;show(aG α k).p4 x t k'=k' ((aG α k).p4 x t id);rw[gJ h];exact(bG α).fr k x _ _ |>.trans (congrArg k' ((bG α).fr k x _ _).symm)
 ·rename_i t;show(aG α k).p4 x t k'=k' ((aG α k).p4 x t id);rw[gN h];exact(bC α).fr k x _ _ |>.trans (congrArg k' ((bC α).fr k x _ _).symm)
 ·rename_i t;show(aG α k).p4 x t k'=k' ((aG α k).p4 x t id);rw[gY h];exact(bF α).fr k x _ _ |>.trans (congrArg k' ((bF α).fr k x _ _).symm)
 ·rename_i t;show(aG α k).p4 x t k'=k' ((aG α k).p4 x t id);rw[hU h];rfl
 ·rename_i t;show(aG α k).p5 x t k'=k' ((aG α k).p5 x t id);rw[gM h];exact(bG α).fr k x _ _ |>.trans (congrArg k' ((bG α).fr k x _ _).symm)
 ·rename_i t;show(aG α k).p5 x t k'=k' ((aG α k).p5 x t id);rw[gX h];exact(bG α).fr k x _ _ |>.trans (congrArg k' ((bG α).fr k x _ _).symm)
 ·rename_i t;show(aG α k).p5 x t k'=k' ((aG α k).p5 x t id);rw[gU h];exact(bG α).fr k x _ _ |>.trans (congrArg k' ((bG α).fr k x _ _).symm)
 ·rename_i t;show(aG α k).p5 x t k'=k' ((aG α k).p5 x t id);rw[gO h];exact(bG α).fr k x _ _ |>.trans (congrArg k' ((bG α).fr k x _ _).symm)
 ·rename_i t;show(aG α k).p5 x t k'=k' ((aG α k).p5 x t id);rw[gJ h];exact(bG α).fr k x _ _ |>.trans (congrArg k' ((bG α).fr k x _ _).symm)
 ·rename_i t;show(aG α k).p5 x t k'=k' ((aG α k).p5 x t id);rw[gN h];exact(bC α).fr k x _ _ |>.trans (congrArg k' ((bC α).fr k x _ _).symm)
 ·rename_i t;show(aG α k).p5 x t k'=k' ((aG α k).p5 x t id);rw[gY h];exact(bF α).fr k x _ _ |>.trans (congrArg k' ((bF α).fr k x _ _).symm)
 ·rename_i t;show(aG α k).p5 x t k'=k' ((aG α k).p5 x t id);rw[hU h];rfl
 ·rename_i t;show(aG α k).p6 x t k'=k' ((aG α k).p6 x t id);rw[gM h];exact(bC α).fr k x _ _ |>.trans (congrArg k' ((bC α).fr k x _ _).symm)
 ·rename_i t;show(aG α k).p6 x t k'=k' ((aG α k).p6 x t id);rw[gX h];exact(bC α).fr k x _ _ |>.trans (congrArg k' ((bC α).fr k x _ _).symm)
 ·rename_i t;show(aG α k).p6 x t k'=k' ((aG α k).p6 x t id);rw[gU h];exact(bC α).fr k x _ _ |>.trans (congrArg k' ((bC α).fr k x _ _).symm)
 ·rename_i t;show(aG α k).p6 x t k'=k' ((aG α k).p6 x t id);rw[gO h];exact(bC α).fr k x _ _ |>.trans (congrArg k' ((bC α).fr k x _ _).symm)
 ·rename_i t;show(aG α k).p6 x t k'=k' ((aG α k).p6 x t id);rw[gJ h];exact(bC α).fr k x _ _ |>.trans (congrArg k' ((bC α).fr k x _ _).symm)
 ·rename_i t;show(aG α k).p6 x t k'=k' ((aG α k).p6 x t id);rw[gN h];exact(bC α).fr k x _ _ |>.trans (congrArg k' ((bC α).fr k x _ _).symm)
 ·rename_i t;show(aG α k).p6 x t k'=k' ((aG α k).p6 x t id);rw[gY h];exact(bF α).fr k x _ _ |>.trans (congrArg k' ((bF α).fr k x _ _).symm)
 ·rename_i t;show(aG α k).p6 x t k'=k' ((aG α k).p6 x t id);rw[hU h];rfl
 ·rename_i t;show(aG α k).p7 x t k'=k' ((aG α k).p7 x t id);rw[gM h];exact(bF α).fr k x _ _ |>.trans (congrArg k' ((bF α).fr k x _ _).symm)
 ·rename_i t;show(aG α k).p7 x t k'=k' ((aG α k).p7 x t id);rw[gX h];exact(bF α).fr k x _ _ |>.trans (congrArg k' ((bF α).fr k x _ _).symm)
 ·rename_i t;show(aG α k).p7 x t k'=k' ((aG α k).p7 x t id);rw[gU h];exact(bF α).fr k x _ _ |>.trans (congrArg k' ((bF α).fr k x _ _).symm)
 ·rename_i t;show(aG α k).p7 x t k'=k' ((aG α k).p7 x t id);rw[gO h];exact(bF α).fr k x _ _ |>.trans (congrArg k' ((bF α).fr k x _ _).symm)
 ·rename_i t;show(aG α k).p7 x t k'=k' ((aG α k).p7 x t id);rw[gJ h];exact(bF α).fr k x _ _ |>.trans (congrArg k' ((bF α).fr k x _ _).symm)
 ·rename_i t;show(aG α k).p7 x t k'=k' ((aG α k).p7 x t id);rw[gN h];exact(bF α).fr k x _ _ |>.trans (congrArg k' ((bF α).fr k x _ _).symm)
 ·rename_i t;show(aG α k).p7 x t k'=k' ((aG α k).p7 x t id);rw[gY h];exact(bF α).fr k x _ _ |>.trans (congrArg k' ((bF α).fr k x _ _).symm)
 ·rename_i t;show(aG α k).p7 x t k'=k' ((aG α k).p7 x t id);rw[hU h];rfl
theorem Tl.after (t:Tl α)(k:Nat)(x:Option α):bK k x t.get (t.set k x):=by
 unfold Tl.set
 cases t<;>rcases rng k with h|h|h|h|h|h|h|h
 ·show bK k x _ ((aG α k).p0 x id);rw[gM h];exact aK (fU α) (by omega) (by omega) (fun t j=>Tl.m7 t j) x _ (fun j=>mv (fU α) j)
 ·show bK k x _ ((aG α k).p0 x id);rw[gX h];exact aK (cZ α) (by omega) (by omega) (fun t j=>Tl.kf t j) x _ (fun j=>mv (cZ α) j)
 ·show bK k x _ ((aG α k).p0 x id);rw[gU h];exact aK (cj α) (by omega) (by omega) (fun t j=>Tl.ju t j) x _ (fun j=>mv (cj α) j)
 ·show bK k x _ ((aG α k).p0 x id);rw[gO h];exact aK (bP α) (by omega) (by omega) (fun t j=>Tl.hK t j) x _ (fun j=>mv (bP α) j)
 ·show bK k x _ ((aG α k).p0 x id);rw[gJ h];exact aK (bG α) (by omega) (by omega) (fun t j=>Tl.fJ t j) x _ (fun j=>mv (bG α) j)
 ·show bK k x _ ((aG α k).p0 x id);rw[gN h];exact aK (bC α) (by omega) (by omega) (fun t j=>Tl.eX t j) x _ (fun j=>mv (bC α) j)
 ·show bK k x _ ((aG α k).p0 x id);rw[gY h];exact aK (bF α) (by omega) (by omega) (fun t j=>Tl.eD t j) x _ (fun j=>mv (bF α) j)
 ·show bK k x _ ((aG α k).p0 x id);rw[hU h];exact iO h x fun _=>rfl
 ·rename_i t;show bK k x _ ((aG α k).p1 x t id);rw[gM h];exact aK (fU α) (by omega) (by omega) (fun t j=>Tl.m7 t j) x _ (fun j=>(Tl.m7 t j).symm)
 ·rename_i t;show bK k x _ ((aG α k).p1 x t id);rw[gX h];exact aK (cZ α) (by omega) (by omega) (fun t j=>Tl.kf t j) x _ (fun j=>(aS (fU α) j _).trans ((Tl.m7 t j).symm))
 ·rename_i t;show bK k x _ ((aG α k).p1 x t id);rw[gU h];exact aK (cj α) (by omega) (by omega) (fun t j=>Tl.ju t j) x _ (fun j=>(aS (cZ α) j _).trans ((aS (fU α) j _).trans ((Tl.m7 t j).symm)))
 ·rename_i t;show bK k x _ ((aG α k).p1 x t id);rw[gO h];exact aK (bP α) (by omega) (by omega) (fun t j=>Tl.hK t j) x _ (fun j=>(aS (cj α) j _).trans ((aS (cZ α) j _).trans ((aS (fU α) j _).trans ((Tl.m7 t j).symm))))
 ·rename_i t;show bK k x _ ((aG α k).p1 x t id);rw[gJ h];exact aK (bG α) (by omega) (by omega) (fun t j=>Tl.fJ t j) x _ (fun j=>(aS (bP α) j _).trans ((aS (cj α) j _).trans ((aS (cZ α) j _).trans ((aS (fU α) j _).trans ((Tl.m7 t j).symm)))))
 ·rename_i t;show bK k x _ ((aG α k).p1 x t id);rw[gN h];exact aK (bC α) (by omega) (by omega) (fun t j=>Tl.eX t j) x _ (fun j=>(aS (bG α) j _).trans ((aS (bP α) j _).trans ((aS (cj α) j _).trans ((aS (cZ α) j _).trans ((aS (fU α) j _).trans ((Tl.m7 t j).symm))))))
 ·rename_i t;show bK k x _ ((aG α k).p1 x t id);rw[gY h];exact aK (bF α) (by omega) (by omega) (fun t j=>Tl.eD t j) x _ (fun j=>(aS (bC α) j _).trans ((aS (bG α) j _).trans ((aS (bP α) j _).trans ((aS (cj α) j _).trans ((aS (cZ α) j _).trans ((aS (fU α) j _).trans ((Tl.m7 t j).symm)))))))
 ·rename_i t;show bK k x _ ((aG α k).p1 x t id);rw[hU h];exact iO h x fun _=>rfl
 ·rename_i t;show bK k x _ ((aG α k).p2 x t id);rw[gM h];exact aK (cZ α) (by omega) (by omega) (fun t j=>Tl.kf t j) x _ (fun j=>(Tl.kf t j).symm)
 ·rename_i t;show bK k x _ ((aG α k).p2 x t id);rw[gX h];exact aK (cZ α) (by omega) (by omega) (fun t j=>Tl.kf t j) x _ (fun j=>(Tl.kf t j).symm)
 ·rename_i t;show bK k x _ ((aG α k).p2 x t id);rw[gU h];exact aK (cj α) (by omega) (by omega) (fun t j=>Tl.ju t j) x _ (fun j=>(aS (cZ α) j _).trans ((Tl.kf t j).symm))
 ·rename_i t;show bK k x _ ((aG α k).p2 x t id);rw[gO h];exact aK (bP α) (by omega) (by omega) (fun t j=>Tl.hK t j) x _ (fun j=>(aS (cj α) j _).trans ((aS (cZ α) j _).trans ((Tl.kf t j).symm)))
 ·rename_i t;show bK k x _ ((aG α k).p2 x t id);rw[gJ h];exact aK (bG α) (by omega) (by omega) (fun t j=>Tl.fJ t j) x _ (fun j=>(aS (bP α) j _).trans ((aS (cj α) j _).trans ((aS (cZ α) j _).trans ((Tl.kf t j).symm))))
 ·rename_i t;show bK k x _ ((aG α k).p2 x t id);rw[gN h];exact aK (bC α) (by omega) (by omega) (fun t j=>Tl.eX t j) x _ (fun j=>(aS (bG α) j _).trans ((aS (bP α) j _).trans ((aS (cj α) j _).trans ((aS (cZ α) j _).trans ((Tl.kf t j).symm)))))
 ·rename_i t;show bK k x _ ((aG α k).p2 x t id);rw[gY h];exact aK (bF α) (by omega) (by omega) (fun t j=>Tl.eD t j) x _ (fun j=>(aS (bC α) j _).trans ((aS (bG α) j _).trans ((aS (bP α) j _).trans ((aS (cj α) j _).trans ((aS (cZ α) j _).trans ((Tl.kf t j).symm))))))
 ·rename_i t;show bK k x _ ((aG α k).p2 x t id);rw[hU h];exact iO h x fun _=>rfl
 ·rename_i t;show bK k x _ ((aG α k).p3 x t id);rw[gM h];exact aK (cj α) (by omega) (by omega) (fun t j=>Tl.ju t j) x _ (fun j=>(Tl.ju t j).symm)
 ·rename_i t;show bK k x _ ((aG α k).p3 x t id);rw[gX h];exact aK (cj α) (by omega) (by omega) (fun t j=>Tl.ju t j) x _ (fun j=>(Tl.ju t j).symm)
 ·rename_i t;show bK k x _ ((aG α k).p3 x t id);rw[gU h];exact aK (cj α) (by omega) (by omega) (fun t j=>Tl.ju t j) x _ (fun j=>(Tl.ju t j).symm)
 ·rename_i t;show bK k x _ ((aG α k).p3 x t id);rw[gO h];exact aK (bP α) (by omega) (by omega) (fun t j=>Tl.hK t j) x _ (fun j=>(aS (cj α) j _).trans ((Tl.ju t j).symm))
 ·rename_i t;show bK k x _ ((aG α k).p3 x t id);rw[gJ h];exact aK (bG α) (by omega) (by omega) (fun t j=>Tl.fJ t j) x _ (fun j=>(aS (bP α) j _).trans ((aS (cj α) j _).trans ((Tl.ju t j).symm)))
 ·rename_i t;show bK k x _ ((aG α k).p3 x t id);rw[gN h];exact aK (bC α) (by omega) (by omega) (fun t j=>Tl.eX t j) x _ (fun j=>(aS (bG α) j _).trans ((aS (bP α) j _).trans ((aS (cj α) j _).trans ((Tl.ju t j).symm))))
 ·rename_i t;show bK k x _ ((aG α k).p3 x t id);rw[gY h];exact aK (bF α) (by omega) (by omega) (fun t j=>Tl.eD t j) x _ (fun j=>(aS (bC α) j _).trans ((aS (bG α) j _).trans ((aS (bP α) j _).trans ((aS (cj α) j _).trans ((Tl.ju t j).symm)))))
 ·rename_i t;show bK k x _ ((aG α k).p3 x t id);rw[hU h];exact iO h x fun _=>rfl
 ·rename_i t;show bK k x _ ((aG α k).p4 x t id);rw[gM h];exact aK (bP α) (by omega) (by omega) (fun t j=>Tl.hK t j) x _ (fun j=>(Tl.hK t j).symm)
 ·rename_i t;show bK k x _ ((aG α k).p4 x t id);rw[gX h];exact aK (bP α) (by omega) (by omega) (fun t j=>Tl.hK t j) x _ (fun j=>(Tl.hK t j).symm)
 ·rename_i t;show bK k x _ ((aG α k).p4 x t id);rw[gU h];exact aK (bP α) (by omega) (by omega) (fun t j=>Tl.hK t j) x _ (fun j=>(Tl.hK t j).symm)
 ·rename_i t;show bK k x _ ((aG α k).p4 x t id);rw[gO h];exact aK (bP α) (by omega) (by omega) (fun t j=>Tl.hK t j) x _ (fun j=>(Tl.hK t j).symm)
 ·rename_i t;show bK k x _ ((aG α k).p4 x t id);rw[gJ h];exact aK (bG α) (by omega) (by omega) (fun t j=>Tl.fJ t j) x _ (fun j=>(aS (bP α) j _).trans ((Tl.hK t j).symm))
 ·rename_i t;show bK k x _ ((aG α k).p4 x t id);rw[gN h];exact aK (bC α) (by omega) (by omega) (fun t j=>Tl.eX t j) x _ (fun j=>(aS (bG α) j _).trans ((aS (bP α) j _).trans ((Tl.hK t j).symm)))
 ·rename_i t;show bK k x _ ((aG α k).p4 x t id);rw[gY h];exact aK (bF α) (by omega) (by omega) (fun t j=>Tl.eD t j) x _ (fun j=>(aS (bC α) j _).trans ((aS (bG α) j _).trans ((aS (bP α) j _).trans ((Tl.hK t j).symm))))
 ·rename_i t;show bK k x _ ((aG α k).p4 x t id);rw[hU h];exact iO h x fun _=>rfl
 ·rename_i t;show bK k x _ ((aG α k).p5 x t id);rw[gM h];exact aK (bG α) (by omega) (by omega) (fun t j=>Tl.fJ t j) x _ (fun j=>(Tl.fJ t j).symm)
 ·rename_i t;show bK k x _ ((aG α k).p5 x t id);rw[gX h];exact aK (bG α) (by omega) (by omega) (fun t j=>Tl.fJ t j) x _ (fun j=>(Tl.fJ t j).symm)
 ·rename_i t;show bK k x _ ((aG α k).p5 x t id);rw[gU h];exact aK (bG α) (by omega) (by omega) (fun t j=>Tl.fJ t j) x _ (fun j=>(Tl.fJ t j).symm)
 ·rename_i t;show bK k x _ ((aG α k).p5 x t id);rw[gO h];exact aK (bG α) (by omega) (by omega) (fun t j=>Tl.fJ t j) x _ (fun j=>(Tl.fJ t j).symm)
 ·rename_i t;show bK k x _ ((aG α k).p5 x t id);rw[gJ h];exact aK (bG α) (by omega) (by omega) (fun t j=>Tl.fJ t j) x _ (fun j=>(Tl.fJ t j).symm)
 ·rename_i t;show bK k x _ ((aG α k).p5 x t id);rw[gN h];exact aK (bC α) (by omega) (by omega) (fun t j=>Tl.eX t j) x _ (fun j=>(aS (bG α) j _).trans ((Tl.fJ t j).symm))
 ·rename_i t;show bK k x _ ((aG α k).p5 x t id);rw[gY h];exact aK (bF α) (by omega) (by omega) (fun t j=>Tl.eD t j) x _ (fun j=>(aS (bC α) j _).trans ((aS (bG α) j _).trans ((Tl.fJ t j).symm)))
 ·rename_i t;show bK k x _ ((aG α k).p5 x t id);rw[hU h];exact iO h x fun _=>rfl
 ·rename_i t;show bK k x _ ((aG α k).p6 x t id);rw[gM h];exact aK (bC α) (by omega) (by omega) (fun t j=>Tl.eX t j) x _ (fun j=>(Tl.eX t j).symm)
 ·rename_i t;show bK k x _ ((aG α k).p6 x t id);rw[gX h];exact aK (bC α) (by omega) (by omega) (fun t j=>Tl.eX t j) x _ (fun j=>(Tl.eX t j).symm)
 ·rename_i t;show bK k x _ ((aG α k).p6 x t id);rw[gU h];exact aK (bC α) (by omega) (by omega) (fun t j=>Tl.eX t j) x _ (fun j=>(Tl.eX t j).symm)
 ·rename_i t;show bK k x _ ((aG α k).p6 x t id);rw[gO h];exact aK (bC α) (by omega) (by omega) (fun t j=>Tl.eX t j) x _ (fun j=>(Tl.eX t j).symm)
 ·rename_i t;show bK k x _ ((aG α k).p6 x t id);rw[gJ h];exact aK (bC α) (by omega) (by omega) (fun t j=>Tl.eX t j) x _ (fun j=>(Tl.eX t j).symm)
 ·rename_i t;show bK k x _ ((aG α k).p6 x t id);rw[gN h];exact aK (bC α) (by omega) (by omega) (fun t j=>Tl.eX t j) x _ (fun j=>(Tl.eX t j).symm)
 ·rename_i t;show bK k x _ ((aG α k).p6 x t id);rw[gY h];exact aK (bF α) (by omega) (by omega) (fun t j=>Tl.eD t j) x _ (fun j=>(aS (bC α) j _).trans ((Tl.eX t j).symm))
 ·rename_i t;show bK k x _ ((aG α k).p6 x t id);rw[hU h];exact iO h x fun _=>rfl
 ·rename_i t;show bK k x _ ((aG α k).p7 x t id);rw[gM h];exact aK (bF α) (by omega) (by omega) (fun t j=>Tl.eD t j) x _ (fun j=>(Tl.eD t j).symm)
 ·rename_i t;show bK k x _ ((aG α k).p7 x t id);rw[gX h];exact aK (bF α) (by omega) (by omega) (fun t j=>Tl.eD t j) x _ (fun j=>(Tl.eD t j).symm)
 ·rename_i t;show bK k x _ ((aG α k).p7 x t id);rw[gU h];exact aK (bF α) (by omega) (by omega) (fun t j=>Tl.eD t j) x _ (fun j=>(Tl.eD t j).symm)
 ·rename_i t;show bK k x _ ((aG α k).p7 x t id);rw[gO h];exact aK (bF α) (by omega) (by omega) (fun t j=>Tl.eD t j) x _ (fun j=>(Tl.eD t j).symm)
 ·rename_i t;show bK k x _ ((aG α k).p7 x t id);rw[gJ h];exact aK (bF α) (by omega) (by omega) (fun t j=>Tl.eD t j) x _ (fun j=>(Tl.eD t j).symm)
 ·rename_i t;show bK k x _ ((aG α k).p7 x t id);rw[gN h];exact aK (bF α) (by omega) (by omega) (fun t j=>Tl.eD t j) x _ (fun j=>(Tl.eD t j).symm)
 ·rename_i t;show bK k x _ ((aG α k).p7 x t id);rw[gY h];exact aK (bF α) (by omega) (by omega) (fun t j=>Tl.eD t j) x _ (fun j=>(Tl.eD t j).symm)
 ·rename_i t;show bK k x _ ((aG α k).p7 x t id);rw[hU h];exact iO h x fun _=>rfl
theorem Tl.JC (t:Tl α){k:Nat}(h:¬k<2097152):t.get k=none:=by
 cases t with
 |e=>rfl
 |d1 t=>rw[Tl.m7,dP,if_neg (by omega)]
 |d2 t=>rw[Tl.kf,dP,if_neg (by omega)]
 |d3 t=>rw[Tl.ju,dP,if_neg (by omega)]
 |d4 t=>rw[Tl.hK,dP,if_neg (by omega)]
 |d5 t=>rw[Tl.fJ,dP,if_neg (by omega)]
 |d6 t=>rw[Tl.eX,dP,if_neg (by omega)]
 |d7 t=>rw[Tl.eD,dP,if_neg (by omega)]
theorem Tl.rC {t:Tl α}{k:Nat}{v:Option α}{j:Nat}{x:α}(h:(t.set k v).get j=some x):(j=k∧v=some x)∨(j≠k∧t.get j=some x):=by
 rw[Tl.after t k v j] at h
 split at h
 ·rename_i e;exact .inl ⟨e.1,h⟩
 ·rename_i e
  refine .inr ⟨fun e'=>?_,h⟩
  rw[Tl.JC t (fun q=>e ⟨e',by omega⟩)] at h
  cases h
theorem Tl.qB {t:Tl α}{k:Nat}{v:α}{j:Nat}(_:k≤1000000000)(h:j≠k):(t.put k v).get j=t.get j:=by
 show(t.set k (some v)).get j=_
 rw[Tl.after,if_neg (fun q=>h q.1)]
theorem Tl.df {t:Tl α}{k:Nat}{v:α}{j:Nat}{x:α}(h:(t.put k v).get j=some x):(j=k∧v=x)∨(j≠k∧t.get j=some x):=
 (Tl.rC h).imp (fun⟨a,b⟩=>⟨a,Option.some.inj b⟩) id
theorem Tl.fu {t:Tl α}{k:Nat}{j:Nat}{x:α}(h:(t.del k).get j=some x):j≠k∧t.get j=some x:=by
 rcases Tl.rC h with⟨_,b⟩|h
 ·cases b
 ·exact h
theorem Tl.vq {t:Tl α}{k:Nat}{j:Nat}(h:j≠k):(t.del k).get j=t.get j:=by
 show(t.set k none).get j=_
 rw[Tl.after,if_neg (fun q=>h q.1)]
def kTl {β:Type}(t:Tl α)(k:Tl α→β):β:=Tl.rec (motive:=fun _=>β) (k .e) (fun t=>k (.d1 t)) (fun t=>k (.d2 t)) (fun t=>k (.d3 t)) (fun t=>k (.d4 t)) (fun t=>k (.d5 t)) (fun t=>k (.d6 t)) (fun t=>k (.d7 t)) t
def Tl.nz {γ:Type}(t:Tl α)(k:Nat)(v:α)(k':Tl α→γ):γ:=t.sP k (some v) k'
@[simp] theorem Tl.rN {γ : Type} (t : Tl α) (k : Nat) (v : α) (k' : Tl α → γ) : t.nz k v k' = k' (t.put k v) := Tl.p9 t k (some v) k'
@[simp] theorem Oo {β : Type} (t : Tl α) (k : Tl α → β) : kTl t k = k t := by cases t <;> rfl
def N8.same {β:Type}(s:β→β→Bool)(x y:N8 β):Bool:=N8.rec (motive:=fun _=>N8 β→Bool) (fun a b c d e f g h y=>N8.rec (motive:=fun _=>Bool) (fun a' b' c' d' e' f' g' h'=>s a a'&& (s b b'&& (s c c'&& (s d d'&& (s e e'&& (s f f'&& (s g g'&&s h h'))))))) y) x y
theorem N8.ir {β:Type}{s:β→β→Bool}(hs:∀a b,s a b=true→a=b){x y:N8 β}(h:x.same s y=true):x=y:=by
 cases x;cases y
 simp only[N8.same,Bool.and_eq_true] at h
 obtain⟨h1,h2,h3,h4,h5,h6,h7,h8⟩:=h
 rw[hs _ _ h1,hs _ _ h2,hs _ _ h3,hs _ _ h4,hs _ _ h5,hs _ _ h6,hs _ _ h7,hs _ _ h8]
def Tl.q8 (s:Option α→Option α→Bool):Tl α→Tl α→Bool
 | .e, .e=>true
 | .d1 x, .d1 y=>x.same s y
 | .d2 x, .d2 y=>x.same (fun a b=>a.same s b) y
 | .d3 x, .d3 y=>x.same (fun a b=>a.same (fun a b=>a.same s b) b) y
 | _,_=>false
theorem Tl.sZ {s:Option α→Option α→Bool}(hs:∀a b,s a b=true→a=b):∀ {x y:Tl α},Tl.q8 s x y=true→x=y:=by
 intro x y h
 unfold Tl.q8 at h
 split at h
 ·rfl
 ·rw[N8.ir hs h]
 ·rw[N8.ir (fun a b=>N8.ir hs) h]
 ·rw[N8.ir (fun a b=>N8.ir (fun a b=>N8.ir hs)) h]
 ·cases h
end
end
structure Tr (α:Type) where
 lo:Tl α
 hi:List (Nat×Option α)
namespace Tr
variable {α:Type}
def e:Tr α:=⟨.e,[]⟩
def lk:List (Nat×Option α)→Nat→Option α
 |[],_=>none
 |p::l,k=>match Nat.beq p.1 k with
  |true=>p.2
  |false=>lk l k
noncomputable def get (t:Tr α)(k:Nat):Option α:=Bool.rec (motive:=fun _=>Option α) (lk t.hi k) (t.lo.get k) (Nat.ble (Nat.succ k) 2097152)
noncomputable def sP {γ:Type}(t:Tr α)(k:Nat)(x:Option α)(k':Tr α→γ):γ:=Tr.rec (motive:=fun _=>γ) (fun lo hi=>Bool.rec (motive:=fun _=>γ) (k' ⟨lo,(k,x)::hi⟩) (lo.sP k x fun lo=>k' ⟨lo,hi⟩) (Nat.ble (Nat.succ k) 2097152)) t
noncomputable def set (t:Tr α)(k:Nat)(x:Option α):Tr α:=t.sP k x id
noncomputable def put (t:Tr α)(k:Nat)(v:α):Tr α:=t.set k (some v)
noncomputable def del (t:Tr α)(k:Nat):Tr α:=t.set k none
@[simp] theorem ry (k : Nat) : (Tr.e : Tr α).get k = none := by
 unfold get e
 cases Nat.ble (Nat.succ k) 2097152<;>rfl
theorem Pf {k:Nat}{x:α}(h:(Tr.e:Tr α).get k=some x):False:=by rw[ry] at h;cases h
theorem p9 {γ:Type}(t:Tr α)(k:Nat)(x:Option α)(k':Tr α→γ):t.sP k x k'=k' (t.set k x):=by
 obtain⟨lo,hi⟩:=t
 show Bool.rec (motive:=fun _=>γ) (k' ⟨lo,(k,x)::hi⟩) (lo.sP k x fun lo=>k' ⟨lo,hi⟩) (Nat.ble (Nat.succ k) 2097152)=k' (Bool.rec (motive:=fun _=>Tr α) ⟨lo,(k,x)::hi⟩ (lo.sP k x fun lo=>⟨lo,hi⟩) (Nat.ble (Nat.succ k) 2097152))
 cases Nat.ble (Nat.succ k) 2097152 with
 |false=>rfl
 |true=>show lo.sP k x _=k' (lo.sP k x _);rw[Tl.p9,Tl.p9]
theorem qR (t:Tr α)(k:Nat)(x:Option α)(j:Nat):(t.set k x).get j=if j=k then x else t.get j:=by
 obtain⟨lo,hi⟩:=t
 show get (Bool.rec (motive:=fun _=>Tr α) ⟨lo,(k,x)::hi⟩ (lo.sP k x fun lo=>⟨lo,hi⟩) (Nat.ble (Nat.succ k) 2097152)) j=_
 by_cases hk:k<2097152
 ·rw[jy hk]
  show get (lo.sP k x fun lo=>⟨lo,hi⟩) j=_
  rw[Tl.p9]
  unfold get
  by_cases hj:j<2097152
  ·rw[jy hj]
   show(lo.set k x).get j=if j=k then x else lo.get j
   rw[Tl.after]
   by_cases h:j=k
   ·rw[if_pos ⟨h,hk⟩,if_pos h]
   ·rw[if_neg (fun q=>h q.1),if_neg h]
  ·rw[bU (by omega:2097152≤j)]
   show lk hi j=if j=k then x else lk hi j
   rw[if_neg (by omega)]
 ·rw[bU (by omega:2097152≤k)]
  show get ⟨lo,(k,x)::hi⟩ j=_
  unfold get
  by_cases hj:j<2097152
  ·rw[jy hj]
   show lo.get j=if j=k then x else lo.get j
   rw[if_neg (by omega)]
  ·rw[bU (by omega:2097152≤j)]
   show(match Nat.beq k j with|true=>x|false=>lk hi j)=if j=k then x else lk hi j
   by_cases h:j=k
   ·rw[if_pos h,h,show Nat.beq k k=true from Nat.beq_refl k]
   ·rw[if_neg h,show Nat.beq k j=false from by cases hb:Nat.beq k j with|false=>rfl|true=>exact absurd (Nat.beq_eq.mp hb).symm h]
theorem cV (t:Tr α)(k:Nat)(v:α)(j:Nat):(t.put k v).get j=if j=k then some v else t.get j:=qR t k (some v) j
theorem rC {t:Tr α}{k:Nat}{v:Option α}{j:Nat}{x:α}(h:(t.set k v).get j=some x):(j=k∧v=some x)∨(j≠k∧t.get j=some x):=by
 rw[qR] at h
 split at h
 ·rename_i e;exact .inl ⟨e,h⟩
 ·rename_i e;exact .inr ⟨e,h⟩
theorem qB {t:Tr α}{k:Nat}{v:α}{j:Nat}(_:k≤1000000000)(h:j≠k):(t.put k v).get j=t.get j:=by rw[cV,if_neg h]
theorem df {t:Tr α}{k:Nat}{v:α}{j:Nat}{x:α}(h:(t.put k v).get j=some x):(j=k∧v=x)∨(j≠k∧t.get j=some x):=
 (rC h).imp (fun⟨a,b⟩=>⟨a,Option.some.inj b⟩) id
theorem fu {t:Tr α}{k:Nat}{j:Nat}{x:α}(h:(t.del k).get j=some x):j≠k∧t.get j=some x:=by
 rcases rC h with⟨_,b⟩|h
 ·cases b
 ·exact h
theorem vq {t:Tr α}{k:Nat}{j:Nat}(h:j≠k):(t.del k).get j=t.get j:=by
 show(t.set k none).get j=_
 rw[qR,if_neg h]
noncomputable def nz {γ:Type}(t:Tr α)(k:Nat)(v:α)(k':Tr α→γ):γ:=t.sP k (some v) k'
@[simp] theorem rN {γ : Type} (t : Tr α) (k : Nat) (v : α) (k' : Tr α → γ) : t.nz k v k' = k' (t.put k v) := p9 t k (some v) k'
def tG (s:Option α→Option α→Bool):List (Nat×Option α)→List (Nat×Option α)→Bool
 |[],[]=>true
 |p::l,q::m=>Nat.beq p.1 q.1&& (s p.2 q.2&&tG s l m)
 | _,_=>false
theorem yO {s:Option α→Option α→Bool}(hs:∀a b,s a b=true→a=b):∀ {l m:List (Nat×Option α)},tG s l m=true→l=m
 |[],[],_=>rfl
 |[],_::_,h=>by simp[tG] at h
 | _::_,[],h=>by simp[tG] at h
 |(a,x)::l,(b,y)::m,h=>by
  simp only[tG,Bool.and_eq_true,Nat.beq_eq] at h
  obtain⟨h1,h2,h3⟩:=h
  rw[h1,hs _ _ h2,yO hs h3]
noncomputable def q8 (s:Option α→Option α→Bool)(x y:Tr α):Bool:=Tl.q8 s x.lo y.lo&&tG s x.hi y.hi
theorem sZ {s:Option α→Option α→Bool}(hs:∀a b,s a b=true→a=b):∀ {x y:Tr α},Tr.q8 s x y=true→x=y:=by
 intro x y h
 obtain⟨a,b⟩:=x
 obtain⟨c,d⟩:=y
 simp only[q8,Bool.and_eq_true] at h
 rw[Tl.sZ hs h.1,yO hs h.2]
end Tr
noncomputable def kT {α β:Type}(t:Tr α)(k:Tr α→β):β:=Tr.rec (motive:=fun _=>β) (fun lo hi=>kTl lo fun lo=>k ⟨lo,hi⟩) t
@[simp] theorem kH {α β : Type} (t : Tr α) (k : Tr α → β) : kT t k = k t := by
 obtain⟨lo,hi⟩:=t
 show kTl lo (fun lo=>k ⟨lo,hi⟩)=k ⟨lo,hi⟩
 rw[Oo]
end Go.Am
end
