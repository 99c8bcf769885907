/-
  What an operation that does not act depends on: its operands, what is known of the heap. What 'same' tells.
-/
import Derived.Test.YtiahoioaklpnlaaGreatDoorAmLay
import Derived.Test.YtiahoioaklpnlaaGreatDoorAmRun
namespace Go.Am

mutual
theorem AV.same_eq : ∀ {x y : AV}, x.same y = true → x = y
  | .top, y, h => by cases y <;> simp [AV.same] at h
  | .bool _, y, h => by cases y <;> simp [AV.same] at h; subst h; rfl
  | .int _ _, y, h => by cases y <;> simp [AV.same] at h; obtain ⟨rfl, rfl⟩ := h; rfl
  | .flt _ _, y, h => by cases y <;> simp [AV.same] at h; obtain ⟨rfl, h⟩ := h; rw [h]
  | .str ⟨_, _⟩, y, h => by cases y <;> simp [AV.same, Str.beq] at h; rename_i b; obtain ⟨b1, b2⟩ := b; simp only at h; obtain ⟨rfl, rfl⟩ := h; rfl
  | .ptr _, y, h => by cases y <;> simp [AV.same] at h; subst h; rfl
  | .slc _ _ _ _, y, h => by cases y <;> simp [AV.same] at h; obtain ⟨⟨⟨rfl, h1⟩, h2⟩, rfl⟩ := h; rw [h1, h2]
  | .map _, y, h => by cases y <;> simp [AV.same] at h; subst h; rfl
  | .func _ a b, y, h => by
    cases y <;> simp [AV.same] at h
    obtain ⟨⟨rfl, h1⟩, h2⟩ := h
    rw [sameL_eq h1, sameL_eq h2]
  | .nilFunc, y, h => by cases y <;> simp [AV.same] at h; rfl
  | .any, y, h => by cases y <;> simp [AV.same] at h; rfl
  | .yld _, y, h => by cases y <;> simp [AV.same] at h; rw [h]
  | .gp _ _, y, h => by cases y <;> simp [AV.same] at h; rw [h.1, h.2]
  | .cls _ _ _ _, y, h => by cases y <;> simp [AV.same] at h; rw [h.1, h.2.1, h.2.2.1, h.2.2.2]
  | .ne _ _, y, h => by cases y <;> simp [AV.same] at h; rw [h.1, h.2]
  | .iface _ v, y, h => by
    cases y <;> simp [AV.same] at h
    obtain ⟨rfl, h1⟩ := h
    rw [AV.same_eq h1]
  | .nilIface, y, h => by cases y <;> simp [AV.same] at h; rfl
  | .agg l, y, h => by cases y <;> simp [AV.same] at h; rw [sameL_eq h]
  | .tup l, y, h => by cases y <;> simp [AV.same] at h; rw [sameL_eq h]
theorem sameL_eq : ∀ {x y : List AV}, sameL x y = true → x = y
  | [], [], _ => rfl
  | [], _ :: _, h => by simp [sameL] at h
  | _ :: _, [], h => by simp [sameL] at h
  | a :: l, b :: m, h => by
    simp [sameL] at h
    rw [AV.same_eq h.1, sameL_eq h.2]
end
theorem sameO_eq {x y : Option AV} (h : sameO x y = true) : x = y := by
  cases x <;> cases y <;> simp [sameO] at h
  · rfl
  · rw [AV.same_eq h]
theorem sameT_eq {x y : Tr AV} (h : sameT x y = true) : x = y := Tr.sameBy_eq (fun _ _ => sameO_eq) h
theorem sameAB_eq {x y : AB} (h : sameAB x y = true) : x = y := by
  unfold sameAB at h
  split at h
  · simp only [Bool.and_eq_true] at h
    rw [Nat.beq_eq.mp h.1, sameT_eq h.2]
  · rfl
  · cases h

section
variable {X : Ctx} {s s' : St}

theorem parts_congr {fr fr' : Fr} {ps : Array (Nat × Operand)} (h : ∀ p ∈ ps.toList, fr'.opd p.2 = fr.opd p.2) : parts fr' ps = parts fr ps := by
  unfold parts
  exact List.map_congr_left fun ⟨i, x⟩ hp => by have := h _ hp; simp only at this; simp only [this]
theorem args_congr {fr fr' : Fr} {xs : Array Operand} (h : ∀ x ∈ xs.toList, fr'.opd x = fr.opd x) : xs.toList.map fr'.opd = xs.toList.map fr.opd :=
  List.map_congr_left fun x hx => h x hx

/-- The same operands: the same. -/
theorem opAt_congr {o : Oper} {fr fr' : Fr} (h : ∀ x ∈ o.op.operands, fr'.opd x = fr.opd x) : opAt X o fr' s = opAt X o fr s := by
  have opt : ∀ (y : Option Operand), (∀ x, y = some x → x ∈ o.op.operands) → y.map fr'.opd = y.map fr.opd := fun y hy => by
    cases y with
    | none => rfl
    | some x => simp [h x (hy x rfl)]
  unfold opAt
  cases ho : o.op <;> simp only [ho, Op.operands] at h opt <;> try simp only []
  case build t ps => rw [parts_congr fun p hp => h p.2 (by simp only [List.mem_toArray, List.mem_map]; exact ⟨p, hp, rfl⟩)]
  case buildSlice t n ps => rw [parts_congr fun p hp => h p.2 (by simp only [List.mem_toArray, List.mem_map]; exact ⟨p, hp, rfl⟩)]
  case makeFunc fn a b => rw [args_congr fun x hx => h x (by simp [Array.mem_toList_iff.mp hx]), args_congr fun x hx => h x (by simp [Array.mem_toList_iff.mp hx])]
  case makeMap t r => cases r <;> rfl
  case slice t x lo hi mx =>
    rw [h x (by simp), opt lo fun x hx => by simp [hx], opt hi fun x hx => by simp [hx], opt mx fun x hx => by simp [hx]]
  case call c =>
    have ha : c.args.toList.map fr'.opd = c.args.toList.map fr.opd := args_congr fun x hx => h x (by simp [Call.operands, Array.mem_toList_iff.mp hx])
    unfold opCall
    cases hc : c.callee <;> simp only [ha]
    case value f => rw [h f (by simp [Call.operands, hc])]
    case invoke rv name => rw [h rv (by simp [Call.operands, hc])]
  case defer c =>
    have ha : c.args.toList.map fr'.opd = c.args.toList.map fr.opd := args_congr fun x hx => h x (by simp [Call.operands, Array.mem_toList_iff.mp hx])
    unfold opDef
    cases hc : c.callee <;> simp only [ha]
    case value f => rw [h f (by simp [Call.operands, hc])]
  all_goals first
    | rfl
    | simp_all

/-- More is known. -/
structure St.le (s s' : St) : Prop where
  h : ∀ b ab, s.h.get b = some ab → s'.h.get b = some ab
  gl : s'.gl = s.gl
theorem St.le.cells {b : Nat} {c : Tr AV × Nat} (hle : s.le s') (h : s.cells b = some c) : s'.cells b = some c := by
  obtain ⟨c, n⟩ := c
  have := hle.h b _ (St.cells_spec h)
  simp [St.cells, this]

theorem loadT_mono {t : TypeId} {a v : AV} (hle : s.le s') (h : loadT X t a s = some v) : loadT X t a s' = some v := by
  unfold loadT at h ⊢
  split at h
  · rename_i b off
    cases hc : s.cells b with
    | none => rw [hc] at h; cases h
    | some c => rw [hc] at h; simp only [hle.cells hc]; exact h
  · simp only [hle.gl]; exact h
  · cases h
theorem srcCells_mono {n : Nat} {v : AV} {r : Nat × List AV} (hle : s.le s') (h : srcCells s n v = some r) : srcCells s' n v = some r := by
  unfold srcCells at h ⊢
  split at h
  · exact h
  · rename_i b off es m c x
    split at h
    · exact h
    · rename_i h0
      cases hc : s.cells b with
      | none => rw [hc] at h; cases h
      | some c => rw [hc] at h; simp only [hle.cells hc]; exact h
  · exact h
  · cases h
theorem lenAt_mono {t : TypeId} {x v : AV} (hle : s.le s') (h : lenAt X t x s = some v) : lenAt X t x s' = some v := by
  unfold lenAt at h ⊢
  split at h <;> (try simp only [*] at h ⊢)
  all_goals try exact h
  · split at h
    · rename_i es hg
      rw [hle.h _ _ hg]; exact h
    · cases h
theorem sliceAtt_mono {t : TypeId} {x v : AV} {lo hi mx : Option AV} (hle : s.le s') (h : sliceAtt X s t x lo hi mx = some v) : sliceAtt X s' t x lo hi mx = some v := by
  unfold sliceAtt at h ⊢
  split at h <;> (try simp only [*] at h ⊢)
  all_goals try exact h
  · rename_i n elem b off hu
    unfold sliceA at h ⊢
    split at h
    · rename_i l hh m hb
      cases hc : s.cells b with
      | none => rw [hc] at h; split at h <;> simp_all
      | some c => rw [hc] at h; simp only [hle.cells hc]; exact h
    · cases h
theorem opLookup_mono {t : TypeId} {x k : AV} {ok : Bool} {r : OR} (hle : s.le s') (h : opLookup X t x k ok s = some r) : opLookup X t x k ok s' = some r := by
  unfold opLookup at h ⊢
  split at h
  · rename_i kt vt hu
    have hm : ∀ es, mapOf x s = some es → mapOf x s' = some es := fun es he => by
      unfold mapOf at he ⊢
      split at he
      · exact he
      · rename_i rr
        split at he
        · rename_i es' hg; simp only [hle.h _ _ hg]; exact he
        · cases he
      · cases he
    split at h
    · rename_i d es hd hes
      simp only [hd, hm _ hes]; exact h
    · cases h
  · cases h
theorem opConvert_mono {a b : TypeId} {x : AV} {r : OR} (hle : s.le s') (h : opConvert X a b x s = some r) (hv : ∀ v s1, r ≠ .val v s1) : opConvert X a b x s' = some r := by
  unfold opConvert at h ⊢
  split at h <;> (try simp only [*] at h ⊢)
  all_goals try exact h
  · unfold convBytes at h
    split at h
    · split at h
      · cases h; exact absurd rfl (hv _ _)
      · cases h
    · cases h
  · unfold convStr at h ⊢
    split at h
    · rename_i he
      split at h
      · rename_i k l hs
        simp only [srcCells_mono hle hs]; exact h
      · cases h
    · cases h

/-- What an operation that does not act, and lays nothing, came to: so it does where more is known. -/
theorem opAt_mono {o : Oper} {fr : Fr} {r : OR} (hle : s.le s') (hn : acts o = false) (h : opAt X o fr s = some r) (hv : ∀ v s1, r ≠ .val v s1) : opAt X o fr s' = some r := by
  unfold opAt at h ⊢
  cases ho : o.op <;> simp only [ho] at h ⊢ <;> first
    | exact h
    | (simp [acts, ho] at hn; done)
    | skip
  case alloc t => 
    unfold opAlloc newCells at h
    split at h
    · split at h
      · cases h; exact absurd rfl (hv _ _)
      · cases h
    · cases h
  case box t x =>
    unfold opBox newCells at h
    split at h
    · cases h
    · split at h
      · cases h; exact absurd rfl (hv _ _)
      · cases h
  case buildSlice t n ps =>
    unfold opBuildS opBuildS1 newSlice at h
    (repeat' split at h) <;> first | (cases h; done) | (cases h; exact absurd rfl (hv _ _))
  case load t a =>
    unfold loadAs old1 at h ⊢
    split at h
    · rename_i v hl; rw [loadT_mono hle hl]; exact h
    · cases h
  case convert a b x => exact opConvert_mono hle h hv
  case makeMap t r =>
    cases r with
    | none => simp only [opMkMap] at h; cases h; exact absurd rfl (hv _ _)
    | some _ => exact h
  case makeSlice t l c =>
    unfold opMkSlice mkSlice1 at h
    (repeat' split at h) <;> first | (cases h; done) | (cases h; exact absurd rfl (hv _ _))
  case slice t x lo hi mx =>
    unfold pure1 at h ⊢
    split at h
    · rename_i v hl; rw [sliceAtt_mono hle hl]; exact h
    · cases h
  case lookup t x k ok => exact opLookup_mono hle h
  case call c =>
    unfold opCall at h ⊢
    cases hc : c.callee <;> simp only [hc] at h ⊢
    case value f => simp [acts, ho, hc] at hn
    case builtin b =>
      unfold builtinAt at h ⊢
      cases b <;> simp only at h ⊢ <;> first
        | exact h
        | (simp [acts, ho, hc] at hn; done)
        | skip
      split at h
      · unfold args1 pure1 at h ⊢
        split at h
        · simp only at h ⊢
          split at h
          · rename_i v hl; simp only [lenAt_mono hle hl]; exact h
          · cases h
        · cases h
      · cases h
    case invoke => exact h
end
end Go.Am
