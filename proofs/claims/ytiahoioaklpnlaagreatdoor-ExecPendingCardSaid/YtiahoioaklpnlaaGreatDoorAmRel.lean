/-
  THE ABSTRACT MACHINE AGAINST THE MODEL: what an abstract value, a frame, a heap say of the model's; and what keeps that.
-/
import Derived.Test.YtiahoioaklpnlaaGreatDoorAmEv
namespace Go.Am

/- Each of these hands its argument on as it is. -/
section
variable {α β : Type}
@[simp] theorem kN_eq (m : Nat) (k : Nat → β) : kN m k = k m := by cases m <;> rfl
@[simp] theorem kI_eq (i : Int) (k : Int → β) : kI i k = k i := by cases i <;> simp [kI]
@[simp] theorem kB_eq (b : Bool) (k : Bool → β) : kB b k = k b := by cases b <;> rfl
@[simp] theorem kA_eq (a : Option (Nat × Nat)) (k : Option (Nat × Nat) → β) : kA a k = k a := by
  cases a with
  | none => rfl
  | some p => cases p; simp [kA]
@[simp] theorem kA3_eq (a : Option (Nat × Nat × Nat)) (k : Option (Nat × Nat × Nat) → β) : kA3 a k = k a := by
  cases a with
  | none => rfl
  | some p => obtain ⟨b, o, e⟩ := p; simp [kA3]
@[simp] theorem kV0_eq (v : AV) (k : AV → β) : kV0 v k = k v := by
  cases v <;> simp [kV0]
  case map r => cases r <;> simp
@[simp] theorem kL_eq (l : List AV) (k : List AV → β) : kL l k = k l := by
  induction l generalizing k with
  | nil => rfl
  | cons v vs ih => simp [kL, ih]
@[simp] theorem kV_eq (v : AV) (k : AV → β) : kV v k = k v := by cases v <;> simp [kV]
@[simp] theorem kP_eq (l : List (AV × AV)) (k : List (AV × AV) → β) : kP l k = k l := by
  induction l generalizing k with
  | nil => rfl
  | cons v vs ih => cases v; simp [kP, ih]
@[simp] theorem kS_eq (s : St) (k : St → β) : kS s k = k s := by cases s; simp [kS]
end

theorem Tr.get_ofFrom {α : Type} : ∀ (l : List α) (i : Nat) (t : Tr α) (j : Nat) (x : α), (Tr.ofFrom l i t).get j = some x → (i ≤ j ∧ l[j - i]? = some x) ∨ ((j < i ∨ i + l.length ≤ j) ∧ t.get j = some x)
  | [], i, t, j, x, h => by
    refine .inr ⟨?_, h⟩
    simp; omega
  | y :: ys, i, t, j, x, h => by
    simp only [Tr.ofFrom, Tr.putK_eq, kN_eq] at h
    rcases Tr.get_ofFrom ys (i + 1) _ j x h with ⟨a, b⟩ | ⟨a, b⟩
    · refine .inl ⟨by omega, ?_⟩
      have : j - i = (j - (i + 1)) + 1 := by omega
      rw [this]; simpa using b
    · rcases Tr.get_put b with ⟨c, d⟩ | ⟨c, d⟩
      · subst c; subst d; exact .inl ⟨by omega, by simp⟩
      · refine .inr ⟨?_, d⟩
        simp; omega
theorem Tr.get_of {α : Type} {l : List α} {j : Nat} {x : α} (h : (Tr.of l).get j = some x) : l[j]? = some x := by
  rcases Tr.get_ofFrom l 0 .e j x h with ⟨_, b⟩ | ⟨_, b⟩
  · simpa using b
  · rw [Tr.get_e] at b; cases b

/-- Where an abstract block lies: its block, where in it it begins, and how many of that block's cells (from its first one) are there and may be written. -/
abbrev Inj := Nat → Option (Nat × Nat × Nat)
def Inj.le (ι κ : Inj) : Prop := ∀ b x, ι b = some x → κ b = some x
theorem Inj.le_refl (ι : Inj) : ι.le ι := fun _ _ h => h
theorem Inj.le_trans {ι κ μ : Inj} (h : ι.le κ) (h' : κ.le μ) : ι.le μ := fun b x hb => h' b x (h b x hb)

mutual
/-- What an abstract value says of one of the model's. -/
def VR (ι : Inj) : AV → Value → Prop
  | .top, _ => True
  | .bool b, v => v = .bool b
  | .int k n, v => v = .int k n
  | .flt k b, v => v = .float k b
  | .str s, v => ∃ bs, v = .string bs ∧ s = Str.of bs
  | .ptr none, v => v = .pointer none
  | .ptr (some (b, o)), v => ∃ c d, ι b = some (c, d) ∧ v = .pointer (some ⟨c, d.1 + o, none⟩)
  | .slc none n c x, v => n = 0 ∧ c = 0 ∧ x = true ∧ v = .slice none 0 0
  | .slc (some (b, o, es)) n c x, v => ∃ cb d off m, ι b = some (cb, d) ∧ v = .slice (some ⟨cb, off, none⟩) n m ∧ (0 < c ∨ x = true → off = d.1 + o) ∧ n ≤ c ∧ c ≤ m ∧ (x = true → m = c) ∧ off + m * es ≤ d.2
  | .map none, v => v = .map none
  | .map (some r), v => ∃ c d, ι r = some (c, d) ∧ v = .map (some c)
  | .func f a b, v => ∃ x y, v = .func f x y ∧ VRs ι a x.toList ∧ VRs ι b y.toList
  | .nilFunc, v => v = .nilFunc
  | .any, v => (∀ x, v ≠ .agg x) ∧ ∀ x, v ≠ .tuple x
  | .yld b, v => ∃ c d, ι b = some (c, d) ∧ v = .func (.yield c) #[] #[]
  | .gp g o, v => v = .pointer (some ⟨g, o, none⟩)
  | .cls k b m r, v => ∃ n : Nat, v = .int k n ∧ n < b ∧ n % m = r
  | .ne k n, v => ∃ m : Int, v = .int k m ∧ m ≠ n
  | .iface t u, v => ∃ x, v = .iface t x ∧ VR ι u x
  | .nilIface, v => v = .nilIface
  | .agg cs, v => ∃ x, v = .agg x ∧ VRs ι cs x.toList
  | .tup cs, v => ∃ x, v = .tuple x ∧ VRs ι cs x.toList
def VRs (ι : Inj) : List AV → List Value → Prop
  | [], [] => True
  | a :: l, v :: m => VR ι a v ∧ VRs ι l m
  | _, _ => False
end

mutual
theorem VR.mono {ι κ : Inj} (h : ι.le κ) : ∀ {a : AV} {v : Value}, VR ι a v → VR κ a v
  | .top, _, _ => by simp [VR]
  | .bool _, _, hv => by simpa [VR] using hv
  | .int _ _, _, hv => by simpa [VR] using hv
  | .flt _ _, _, hv => by simpa [VR] using hv
  | .str _, _, hv => by simpa [VR] using hv
  | .ptr none, _, hv => by simpa [VR] using hv
  | .ptr (some (b, o)), _, hv => by
    simp only [VR] at hv ⊢
    obtain ⟨c, d, h1, h2⟩ := hv
    exact ⟨c, d, h _ _ h1, h2⟩
  | .slc none _ _ _, _, hv => by simpa [VR] using hv
  | .slc (some (b, o, es)) n c x, _, hv => by
    simp only [VR] at hv ⊢
    obtain ⟨cb, d, off, m, h1, h2⟩ := hv
    exact ⟨cb, d, off, m, h _ _ h1, h2⟩
  | .map none, _, hv => by simpa [VR] using hv
  | .map (some r), _, hv => by
    simp only [VR] at hv ⊢
    obtain ⟨c, d, h1, h2⟩ := hv
    exact ⟨c, d, h _ _ h1, h2⟩
  | .func f a b, _, hv => by
    simp only [VR] at hv ⊢
    obtain ⟨x, y, h1, h2, h3⟩ := hv
    exact ⟨x, y, h1, VRs.mono h h2, VRs.mono h h3⟩
  | .nilFunc, _, hv => by simpa [VR] using hv
  | .any, _, hv => by simp only [VR] at hv ⊢; exact hv
  | .gp _ _, _, hv => by simp only [VR] at hv ⊢; exact hv
  | .cls _ _ _ _, _, hv => by simp only [VR] at hv ⊢; exact hv
  | .ne _ _, _, hv => by simp only [VR] at hv ⊢; exact hv
  | .yld b, _, hv => by
    simp only [VR] at hv ⊢
    obtain ⟨c, d, h1, h2⟩ := hv
    exact ⟨c, d, h _ _ h1, h2⟩
  | .iface t u, _, hv => by
    simp only [VR] at hv ⊢
    obtain ⟨x, h1, h2⟩ := hv
    exact ⟨x, h1, VR.mono h h2⟩
  | .nilIface, _, hv => by simpa [VR] using hv
  | .agg cs, _, hv => by
    simp only [VR] at hv ⊢
    obtain ⟨x, h1, h2⟩ := hv
    exact ⟨x, h1, VRs.mono h h2⟩
  | .tup cs, _, hv => by
    simp only [VR] at hv ⊢
    obtain ⟨x, h1, h2⟩ := hv
    exact ⟨x, h1, VRs.mono h h2⟩
theorem VRs.mono {ι κ : Inj} (h : ι.le κ) : ∀ {l : List AV} {m : List Value}, VRs ι l m → VRs κ l m
  | [], [], _ => by simp [VRs]
  | [], _ :: _, hv => by simp [VRs] at hv
  | _ :: _, [], hv => by simp [VRs] at hv
  | a :: l, v :: m, hv => by
    simp only [VRs] at hv ⊢
    exact ⟨VR.mono h hv.1, VRs.mono h hv.2⟩
end

section
variable {ι : Inj}
theorem VRs.length : ∀ {l : List AV} {m : List Value}, VRs ι l m → l.length = m.length
  | [], [], _ => rfl
  | [], _ :: _, h => by simp [VRs] at h
  | _ :: _, [], h => by simp [VRs] at h
  | _ :: l, _ :: m, h => by simp only [VRs] at h; simp [VRs.length h.2]
theorem VRs.get : ∀ {l : List AV} {m : List Value} {i : Nat} {a : AV}, VRs ι l m → l[i]? = some a → ∃ v, m[i]? = some v ∧ VR ι a v
  | [], _, _, _, _, hi => by simp at hi
  | _ :: _, [], _, _, h, _ => by simp [VRs] at h
  | b :: l, v :: m, 0, a, h, hi => by
    simp only [VRs] at h; simp at hi; subst hi; exact ⟨v, rfl, h.1⟩
  | b :: l, v :: m, i + 1, a, h, hi => by
    simp only [VRs] at h; simp at hi; simpa using VRs.get h.2 hi
theorem VRs.append : ∀ {l : List AV} {m : List Value} {l' : List AV} {m' : List Value}, VRs ι l m → VRs ι l' m' → VRs ι (l ++ l') (m ++ m')
  | [], [], _, _, _, h' => by simpa using h'
  | [], _ :: _, _, _, h, _ => by simp [VRs] at h
  | _ :: _, [], _, _, h, _ => by simp [VRs] at h
  | _ :: l, _ :: m, _, _, h, h' => by
    simp only [VRs] at h; simp only [List.cons_append, VRs]; exact ⟨h.1, VRs.append h.2 h'⟩
theorem VRs.nil_right {l : List AV} (h : VRs ι l []) : l = [] := by cases l <;> simp [VRs] at h ⊢
theorem VRs.drop : ∀ {l : List AV} {m : List Value} (n : Nat), VRs ι l m → VRs ι (l.drop n) (m.drop n)
  | l, m, 0, h => by simpa using h
  | [], [], n + 1, _ => by simp [VRs]
  | [], _ :: _, _ + 1, h => by simp [VRs] at h
  | _ :: _, [], _ + 1, h => by simp [VRs] at h
  | _ :: l, _ :: m, n + 1, h => by simp only [VRs] at h; simpa using VRs.drop n h.2
theorem VRs.take : ∀ {l : List AV} {m : List Value} (n : Nat), VRs ι l m → VRs ι (l.take n) (m.take n)
  | l, m, 0, h => by simp [VRs]
  | [], [], n + 1, _ => by simp [VRs]
  | [], _ :: _, _ + 1, h => by simp [VRs] at h
  | _ :: _, [], _ + 1, h => by simp [VRs] at h
  | _ :: l, _ :: m, n + 1, h => by simp only [VRs] at h; simp only [List.take_succ_cons, VRs]; exact ⟨h.1, VRs.take n h.2⟩
theorem VRs.set : ∀ {l : List AV} {m : List Value} (i : Nat) {a : AV} {v : Value}, VRs ι l m → VR ι a v → VRs ι (l.set i a) (m.set i v)
  | [], [], i, _, _, _, _ => by simp [VRs]
  | [], _ :: _, _, _, _, h, _ => by simp [VRs] at h
  | _ :: _, [], _, _, _, h, _ => by simp [VRs] at h
  | _ :: l, _ :: m, 0, _, _, h, ha => by simp only [VRs] at h; simp only [List.set_cons_zero, VRs]; exact ⟨ha, h.2⟩
  | _ :: l, _ :: m, i + 1, _, _, h, ha => by simp only [VRs] at h; simp only [List.set_cons_succ, VRs]; exact ⟨h.1, VRs.set i h.2 ha⟩
theorem VRs.one {a : AV} {v : Value} (h : VR ι a v) : VRs ι [a] [v] := by simp only [VRs]; exact ⟨h, trivial⟩
theorem VRs.ext : ∀ {l : List AV} {m : List Value}, l.length = m.length → (∀ (i : Nat) (a : AV) (v : Value), l[i]? = some a → m[i]? = some v → VR ι a v) → VRs ι l m
  | [], [], _, _ => by simp [VRs]
  | [], _ :: _, h, _ => by simp at h
  | _ :: _, [], h, _ => by simp at h
  | a :: l, v :: m, h, hi => by
    simp only [VRs]
    exact ⟨hi 0 a v rfl rfl, VRs.ext (by simpa using h) fun i b w h1 h2 => hi (i + 1) b w (by simpa using h1) (by simpa using h2)⟩
end

/-- A literal's value says what it is, wherever blocks lie. -/
theorem VR_ofV1 (ι : Inj) (v : Value) : VR ι (ofV1 v) v := by
  cases v <;> simp only [ofV1, VR]
  case string s => exact ⟨s, rfl, rfl⟩
  case pointer a => cases a <;> simp [VR]
  case slice a n c =>
    cases a with
    | none =>
      match n, c with
      | 0, 0 => simp [VR]
      | 0, _ + 1 => simp [VR]
      | _ + 1, _ => simp [VR]
    | some a => simp [VR]
  case map r => cases r <;> simp [VR]
theorem VRs_ofV1 (ι : Inj) : ∀ (l : List Value), VRs ι (l.map ofV1) l
  | [] => by simp [VRs]
  | v :: l => by simp only [List.map_cons, VRs]; exact ⟨VR_ofV1 ι v, VRs_ofV1 ι l⟩
theorem VR_ofV (ι : Inj) (v : Value) : VR ι (ofV v) v := by
  unfold ofV
  split
  · simp only [VR]; exact ⟨_, rfl, VRs_ofV1 ι _⟩
  · simp only [VR]; exact ⟨_, rfl, by simp [VRs]⟩
  · exact VR_ofV1 ι v

end Go.Am
