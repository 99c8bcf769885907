/-
  ApplyWhole answers true at every input, and its arguments read behind the call as they read before: no condition.
-/
import Derived.Test.YtofohkdkpbigiaaQbb
namespace Go.Proofs.Ytofohkdkpbigiaa.applyWhole
open Go.ChangeShapes Go.WideShapes Go.ChangeAt Go.RowKit
open Go.Am (Ctx dU oX mw sI VRs VR md kE oG cF fN yo xV A0 Js gP uc)
theorem own:ownKnob Try.prog.godebug=none:=by kernel_rfl
theorem Ct {P:Program}{w:World}{r:Reach}{base:Nat}{t:TypeId}{v:Value}{k:IntKind}(ht:P.underlying t=some (.int k))(h:Value.okWide P w r base t v):∃n,v= .int k n∧k.has n:=by
 simp only[Value.okWide,ht,Cell.okWide] at h
 cases v<;>simp_all [Cell.ok]
theorem okWide_slice {P:Program}{w:World}{r:Reach}{base:Nat}{t e:TypeId}{v:Value}(ht:P.underlying t=some (.slice e))(h:Value.okWide P w r base t v):v= .slice none 0 0∨∃c o len cap,v= .slice (some ⟨c,o,none⟩) len cap∧c<w.heap.size:=by
 simp only[Value.okWide,ht,Cell.okWide] at h
 cases v with
 |slice p n m=>
  cases p with
  |none=>cases n<;>cases m<;>simp_all [Cell.ok]
  |some a=>
   simp only[Cell.ok,ht] at h
   obtain⟨_,_,_,hs,row,cells,hsh,_⟩:=h
   obtain⟨c,o,sp⟩:=a
   simp only at hs
   subst hs
   refine .inr ⟨c,o,n,m,rfl,?_⟩
   unfold World.shape? at hsh
   cases hc:w.heap[c]? with
   |none=>simp[hc] at hsh
   |some o=>exact Go.Am.DV hc
 | _=>simp_all [Cell.ok]
theorem three {α:Type}:∀ {l:List α},l.length=3→∃a b c,l=[a,b,c]
 |[a,b,c],_=>⟨a,b,c,rfl⟩
theorem Nk {n:Int}(h:IntKind.u8.has n):∃m:Nat,n=(m:Int)∧m≤255:=by
 have h1:0≤n:=h.1
 have h2:n≤255:=h.2
 exact⟨n.toNat,by omega,by omega⟩
theorem HL:Gz O:=by repeat' (first|rfl|constructor)
theorem Mu:Try.prog.underlying 35=some (.slice 34):=by kernel_rfl
theorem OP:Try.prog.underlying 34=some (.struct #[⟨"Key",9,0,false,"","",0⟩,⟨"Val",9,1,false,"","",16⟩,⟨"Del",4,2,false,"","",32⟩]):=by kernel_rfl
theorem O8:Try.prog.underlying 9=some .string:=by kernel_rfl
theorem QA:Try.prog.underlying 4=some .bool:=by kernel_rfl
theorem My (b:ByteArray):(Go.Am.Str.of b).ok:=Go.Am.mE _
theorem dec {H:Type}{enc:TypeId×Value→H}{w:World}:∀n cs y,DataW.trod enc Try.prog w 0 (fun _=>true) true n 34 cs=some y→∃a:Go.Am.Str×Go.Am.Str×Bool,cs.map uc=(wrt a).map some∧(a.1.ok∧a.2.1.ok):=by
 intro n cs y h
 obtain⟨xs,m,_,_,hl,hx,hf⟩:=DataW.trod_struct OP h
 have hl3:cs.length=3:=hl.trans (by kernel_rfl)
 obtain⟨c1,c2,c3,rfl⟩:=three hl3
 have h9:Try.prog.cellsOf 9=1:=by kernel_rfl
 have h4:Try.prog.cellsOf 4=1:=by kernel_rfl
 have f1:DataW.trod enc Try.prog w 0 (fun _=>true) true m 9 [c1]=xs[0]? :=by
  have h:=hf 0 _ rfl
  change DataW.trod enc Try.prog w 0 (fun _=>true) true m 9 (([c1,c2,c3].drop 0).take (Try.prog.cellsOf 9))=_ at h
  rw[h9] at h;exact h
 have f2:DataW.trod enc Try.prog w 0 (fun _=>true) true m 9 [c2]=xs[1]? :=by
  have h:=hf 1 _ rfl
  change DataW.trod enc Try.prog w 0 (fun _=>true) true m 9 (([c1,c2,c3].drop 1).take (Try.prog.cellsOf 9))=_ at h
  rw[h9] at h;exact h
 have f3:DataW.trod enc Try.prog w 0 (fun _=>true) true m 4 [c3]=xs[2]? :=by
  have h:=hf 2 _ rfl
  change DataW.trod enc Try.prog w 0 (fun _=>true) true m 4 (([c1,c2,c3].drop 2).take (Try.prog.cellsOf 4))=_ at h
  rw[h4] at h;exact h
 have hx3:xs.length=3:=hx
 rw[List.getElem?_eq_getElem (by omega)] at f1 f2 f3
 obtain⟨s1,e1,_⟩:=DataW.trod_string O8 f1
 obtain⟨s2,e2,_⟩:=DataW.trod_string O8 f2
 obtain⟨b3,e3,_⟩:=DataW.trod_bool QA f3
 cases e1;cases e2;cases e3
 exact⟨(Go.Am.Str.of s1,Go.Am.Str.of s2,b3),rfl,My _,My _⟩
set_option maxRecDepth 100000 in
theorem lifted (os:Os)(started:os.Started)(H:Type)(enc:TypeId×Value→H):
  ReturnsInHanded {} Try.checked os 4 .any (Rows.applyWholeSpec.pre6 enc Try.prog Try.f4 Rows.applyWholeRow.domain false) (Rows.applyWholeSpec.post enc Try.prog Try.f4 false true false false):=by
 refine returnsInHanded_of_change (C:=Try.checked) own started (by kernel_rfl) Try.func4
  (ChangeSpec.witness6 (enc:=enc) (C:=Try.checked) false ⟨#[], #[.slice none 0 0, .int .u8 0, .bool false],[]⟩ 8 (by kernel_rfl) (by kernel_rfl) (by kernel_rfl) (by kernel_rfl)) ?_
 intro W base args ds gs before hval0 hW hcnd _
 have hW':=hW
 obtain⟨p,q,hA,hV,rfl,hfz,hnd⟩:=hW
 have hV':=hV
 obtain⟨rfl,rfl⟩:=trodVars_none hV'
 simp only[List.append_nil] at hW' hfz
 have hlt:∀x∈p,x.block<W.heap.size:=fun x hx=>by simpa using hW'.lt x hx
 have hl:=md hA
 have hp3:Try.f4.params.toList=[35,5,4]:=by kernel_rfl
 obtain⟨v1,v2,v3,ha⟩:=three (l:=args.toList) (hl.symm.trans (by rw[hp3];rfl))
 have g:∀ (j:Nat) (ty:TypeId) (v:Value),Try.f4.params[j]? =some ty→[v1,v2,v3][j]? =some v→Value.okWide Try.prog W .any base ty v:=fun j ty v h1 h2=>hval0 j ty v (by simpa using h1) (by rw[←ha] at h2;simpa using h2)
 have g1:=okWide_slice Mu (g 0 35 v1 (by kernel_rfl) rfl)
 obtain⟨n2,rfl,k2⟩:=Ct (k:= .u8) (t:=5) (by kernel_rfl) (g 1 5 v2 (by kernel_rfl) rfl)
 obtain⟨b,rfl⟩:=okWide_bool (t:=4) (by kernel_rfl) (g 2 4 v3 (by kernel_rfl) rfl)
 obtain⟨room,rfl,hroom⟩:=Nk k2
 have eargs:args= #[v1, .int .u8 (room:Int), .bool b]:=Array.toList_inj.mp ha
 have hA0:=hA
 rw[ha,hp3] at hA0
 have hd3:ds.length=3:=(kE hA).symm.trans (by rw[hp3];rfl)
 obtain⟨d1,d2,d3,rfl⟩:=three hd3
 obtain⟨p1,q1,⟨fuel,hT⟩,_,hpq⟩:=hA0
 have hv1:v1.cells.toList=[v1]:=by rcases g1 with rfl|⟨_,_,_,_,rfl,_⟩<;>rfl
 rw[hv1] at hT
 obtain⟨ws,wv,hok,hvr,_,hst⟩:=A0 (P:=Try.prog) (w:=W) (ps:=p) wrt (E:=3) Mu (by kernel_rfl) (by decide) dec g1 hT (fun x hx=>by rw[hpq];exact List.mem_append_left _ hx)
 obtain⟨s,hs,hn,htd,hkn,hbl⟩:=yo (P:=Try.prog) (Js hfz)
 obtain⟨hsl,hwb⟩:=hst s hn hkn
 obtain⟨n,r,h1,s',rfl,hm⟩:=HB HL htd hsl hwb hok hroom (late:=b)
 have h2:mw X O n 4 [wv, .int .u8 (room:Int), .bool b] s=some (.ret (.bool true) s'):=by
  simpa only[cF,fN,HL.whole,mw] using h1
 rw[eargs]
 refine(xV (X:=X) ctx FY Qo (Js hfz) hs hn hbl h2 (fun c hc=>hm.old c hc (fun h=>h)) (cargs:= #[v1, .int .u8 (room:Int), .bool b]) (by simp only[VRs];exact⟨hvr,by simp[VR],by simp[VR],trivial⟩)).mono fun e W' ⟨cv,κ,he,hcv,hg⟩=>?_
 have hcv:cv= .bool true:=by simpa[VR] using hcv
 subst hcv
 subst he
 rw[←eargs]
 refine⟨_,rfl,sI (pa:=p) (pv:=[]) hW' (fun _ _ _=>?_) (fun sp hsp'=>?_) (fun _ _=>?_) (by simp) hg (ok_one (by kernel_rfl) rfl (okWide_bool_mk Try.underlying4 _))⟩
 ·exact trodAll_cons_mk (shut_bool Try.underlying4 _) trodAll_mk0
 ·exact oG (by kernel_rfl) hg (by kernel_rfl) hA hlt hsp'
 ·rfl
theorem Qx:Rows.applyWholeRow.holds Try.pinned (OpenSpec.ofChange Rows.applyWholeSpec):=
 OpenClaim.holds_of_wide 4 Try.f4 rfl rfl rfl rfl rfl rfl rfl ⟨rfl,rfl,rfl,rfl,rfl⟩ rfl rfl rfl rfl rfl (by kernel_rfl) Try.func4 (by kernel_rfl)
  (of_decide_eq_true (by kernel_rfl)) (by unfold Func.isWrapper;first|(rw[if_pos (by decide+kernel)];kernel_rfl)|(rw[if_neg (by decide+kernel)];exact⟨rfl,rfl⟩))
  (fun os started H enc _=>lifted os started H enc)
theorem proved:Rows.ApplyWholeSaid:=
 Qx
#print axioms proved
end Go.Proofs.Ytofohkdkpbigiaa.applyWhole
