/-
  A ROW's ARGUMENTS: what is known of each of them by its type alone; that each reads behind as it read.
-/
import Derived.Test.YtiahoioaklpnlaaGreatDoorAmLaw
import Derived.ProofKit
import Derived.WideKeyArgs
namespace Go.Am
open Go.WideShapes Go.ChangeShapes

theorem enters {P : Program} {f : FuncId} {fn : Func} {c : Code} (hf : P.funcs[f]? = some fn) (hname : (fn.name == "runtime.NumGoroutine") = false) (hb : fn.body = some c) : ∀ args w, (callFunc f args).run P w = .ok (.enter f args) w := by
  intro args w
  have h1 : fn.name ≠ "runtime.NumGoroutine" := by simpa using hname
  simp [callFunc, hf, h1, hb, mark]
theorem cell_any {P : Program} {w : World} {r : Reach} {base : Nat} {u : TypeId} {v : Value} (h : Cell.okWide P w r base u v) : (∀ x, v ≠ .agg x) ∧ ∀ x, v ≠ .tuple x := by
  refine ⟨fun x e => ?_, fun x e => ?_⟩ <;>
  · subst e
    unfold Cell.okWide at h
    split at h <;> (try (rename_i e; cases e; done)) <;> (try (rename_i e _ ; cases e; done))
    unfold Cell.ok at h
    split at h <;> first | exact h | (rename_i e; cases e; done) | (rename_i e _; cases e; done)

/-- What is known of an argument by its type. -/
noncomputable def anyOf (P : Program) (t : TypeId) : AV := match P.underlying t with
  | some (.struct _) | some (.array _ _) => .agg (List.replicate (P.cellsOf t) .any)
  | _ => .any
theorem VRs_any {ι : Inj} : ∀ {l : List Value}, (∀ v ∈ l, (∀ x, v ≠ .agg x) ∧ ∀ x, v ≠ .tuple x) → VRs ι (List.replicate l.length .any) l
  | [], _ => by simp [VRs]
  | v :: l, h => by
    simp only [List.length_cons, List.replicate_succ, VRs]
    exact ⟨by simp only [VR]; exact h v (by simp), VRs_any fun u hu => h u (by simp [hu])⟩
theorem any_arg {P : Program} {w : World} {r : Reach} {base : Nat} {t : TypeId} {v : Value} {ι : Inj} (h : Value.okWide P w r base t v) : VR ι (anyOf P t) v := by
  have key : ∀ cs : Array Value, v = .agg cs ∧ cs.size = P.cellsOf t ∧ Row.okWide P w r base t cs → VR ι (.agg (List.replicate (P.cellsOf t) .any)) v := by
    rintro cs ⟨rfl, hsz, ts, h1, _, h3⟩
    simp only [VR]
    refine ⟨cs, rfl, ?_⟩
    rw [← hsz, ← Array.length_toList]
    refine VRs_any fun u hu => ?_
    obtain ⟨i, hi, e⟩ := List.getElem_of_mem hu
    obtain ⟨t', _, hc⟩ := h3 i u (by rw [← e]; simp [Array.getElem?_eq_getElem (show i < cs.size by simpa using hi)])
    exact cell_any hc
  unfold Value.okWide at h
  unfold anyOf
  split at h
  · rename_i fs hu
    simp only [hu]
    obtain ⟨cs, h⟩ := h
    exact key cs h
  · rename_i n e hu
    simp only [hu]
    obtain ⟨cs, h⟩ := h
    exact key cs h
  · rename_i h1 h2
    split
    · rename_i fs hu; exact absurd hu (h1 fs)
    · rename_i n e hu; exact absurd hu (h2 n e)
    · simp only [VR]; exact cell_any h
theorem any_args {P : Program} {w : World} {r : Reach} {base : Nat} {ι : Inj} : ∀ {ts : List TypeId} {vs : List Value}, ts.length = vs.length → (∀ (j : Nat) t v, ts[j]? = some t → vs[j]? = some v → Value.okWide P w r base t v) → VRs ι (ts.map (anyOf P)) vs
  | [], [], _, _ => by simp [VRs]
  | [], _ :: _, h, _ => by simp at h
  | _ :: _, [], h, _ => by simp at h
  | t :: ts, v :: vs, hl, h => by
    simp only [List.map_cons, VRs]
    exact ⟨any_arg (h 0 t v rfl rfl), any_args (by simpa using hl) fun j t' v' h1 h2 => h (j + 1) t' v' h1 h2⟩

section
variable {H : Type} {enc : TypeId × Value → H} {P : Program}
theorem trodAll_length {w : World} {base : Nat} {spare : Nat → Bool} {held : Bool} : ∀ {ts : List TypeId} {vs : List Value} {ds : List (DataW H)} {ps : List MemPlace}, DataW.TrodAll enc P w base spare held ts vs ds ps → ts.length = vs.length
  | [], [], [], _, _ => rfl
  | [], [], _ :: _, _, h => by simp [DataW.TrodAll] at h
  | [], _ :: _, _, _, h => by simp [DataW.TrodAll] at h
  | _ :: _, [], _, _, h => by simp [DataW.TrodAll] at h
  | _ :: _, _ :: _, [], _, h => by simp [DataW.TrodAll] at h
  | t :: ts, v :: vs, d :: ds, ps, h => by
    obtain ⟨p, q, _, h2, _⟩ := h
    simp [trodAll_length h2]
theorem trodAll_lengthD {w : World} {base : Nat} {spare : Nat → Bool} {held : Bool} : ∀ {ts : List TypeId} {vs : List Value} {ds : List (DataW H)} {ps : List MemPlace}, DataW.TrodAll enc P w base spare held ts vs ds ps → ts.length = ds.length
  | [], [], [], _, _ => rfl
  | [], [], _ :: _, _, h => by simp [DataW.TrodAll] at h
  | [], _ :: _, _, _, h => by simp [DataW.TrodAll] at h
  | _ :: _, [], _, _, h => by simp [DataW.TrodAll] at h
  | _ :: _, _ :: _, [], _, h => by simp [DataW.TrodAll] at h
  | t :: ts, v :: vs, d :: ds, ps, h => by
    obtain ⟨p, q, _, h2, _⟩ := h
    simp [trodAll_lengthD h2]
theorem Grew.same {W W' : World} (hg : Grew W W') {p : MemPlace} (hp : p.block < W.heap.size) : W.sameAt W' p := by
  cases p <;> simp only [World.sameAt, MemPlace.block] at hp ⊢ <;> first
    | (rw [hg.cell hp]; done)
    | (unfold World.cell?; rw [hg.2.2 _ hp]; done)
    | (rw [hg.2.2 _ hp]; done)
theorem trodAll_grew (hl : laidOutB P = true) {W W' : World} (hg : Grew W W') {sp : Nat → Bool} : ∀ {ts : List TypeId} {vs : List Value} {ds : List (DataW H)} {ps : List MemPlace}, (ts.all fun t => P.readableRec t && decide (t < P.types.size)) = true →
    DataW.TrodAll enc P W 0 (fun _ => true) true ts vs ds ps → (∀ p ∈ ps, p.block < W.heap.size) → (∀ p ∈ ps, sp p.block = true) → DataW.TrodAll enc P W' 0 sp true ts vs ds ps
  | [], [], [], ps, _, h, _, _ => h
  | [], [], _ :: _, _, _, h, _, _ => by simp [DataW.TrodAll] at h
  | [], _ :: _, _, _, _, h, _, _ => by simp [DataW.TrodAll] at h
  | _ :: _, [], _, _, _, h, _, _ => by simp [DataW.TrodAll] at h
  | _ :: _, _ :: _, [], _, _, h, _, _ => by simp [DataW.TrodAll] at h
  | t :: ts, v :: vs, d :: ds, ps, ht, h, hlt, hsp => by
    obtain ⟨p, q, h1, h2, rfl⟩ := h
    simp only [List.all_cons, Bool.and_eq_true, decide_eq_true_eq] at ht
    refine ⟨p, q, WideElems.Trod_stays hl ht.1.1 ht.1.2 h1 (fun x hx => hg.same (hlt x (by simp [hx]))) (fun x hx => hsp x (by simp [hx])), trodAll_grew hl hg (by simpa using ht.2) h2 (fun x hx => hlt x (by simp [hx])) (fun x hx => hsp x (by simp [hx])), rfl⟩
end
end Go.Am
