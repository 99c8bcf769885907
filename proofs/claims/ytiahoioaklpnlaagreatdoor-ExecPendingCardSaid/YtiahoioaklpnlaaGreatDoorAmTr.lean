/-
  A MAP FROM NUMBERS for the kernel's reckoning: levels of eight; what is to be done at a number is reckoned once for that number.
-/
namespace Go.Am
noncomputable section

inductive N8 (β : Type) where
  | mk (a b c d e f g h : β)
/-- What lays at a number: it hands on what it comes to. -/
structure SB (α β : Type) where
  f : {γ : Type} → Option α → β → (β → γ) → γ
structure GB (α β : Type) where
  f : β → Option α
structure Lev (α β : Type) where
  emp : β
  set : Nat → SB α β
  get : Nat → GB α β

universe u
def dig {γ : Type u} (x0 x1 x2 x3 x4 x5 x6 x7 : γ) (d : Nat) : γ :=
  Bool.rec (motive := fun _ => γ) (Bool.rec (motive := fun _ => γ) (Bool.rec (motive := fun _ => γ) x7 x6 (Nat.beq d 6)) (Bool.rec (motive := fun _ => γ) x5 x4 (Nat.beq d 4)) (Nat.ble d 5)) (Bool.rec (motive := fun _ => γ) (Bool.rec (motive := fun _ => γ) x3 x2 (Nat.beq d 2)) (Bool.rec (motive := fun _ => γ) x1 x0 (Nat.beq d 0)) (Nat.ble d 1)) (Nat.ble d 3)

section
variable {α β : Type}
/-- The first level, spelled out. -/
def Lev.set1 (α : Type) (k : Nat) : SB α (N8 (Option α)) := dig
    ⟨fun {γ} x t k' => N8.rec (motive := fun _ => γ) (fun _ b c d e f g h => k' (.mk x b c d e f g h)) t⟩
    ⟨fun {γ} x t k' => N8.rec (motive := fun _ => γ) (fun a _ c d e f g h => k' (.mk a x c d e f g h)) t⟩
    ⟨fun {γ} x t k' => N8.rec (motive := fun _ => γ) (fun a b _ d e f g h => k' (.mk a b x d e f g h)) t⟩
    ⟨fun {γ} x t k' => N8.rec (motive := fun _ => γ) (fun a b c _ e f g h => k' (.mk a b c x e f g h)) t⟩
    ⟨fun {γ} x t k' => N8.rec (motive := fun _ => γ) (fun a b c d _ f g h => k' (.mk a b c d x f g h)) t⟩
    ⟨fun {γ} x t k' => N8.rec (motive := fun _ => γ) (fun a b c d e _ g h => k' (.mk a b c d e x g h)) t⟩
    ⟨fun {γ} x t k' => N8.rec (motive := fun _ => γ) (fun a b c d e f _ h => k' (.mk a b c d e f x h)) t⟩
    ⟨fun {γ} x t k' => N8.rec (motive := fun _ => γ) (fun a b c d e f g _ => k' (.mk a b c d e f g x)) t⟩ k
def Lev.get1 (α : Type) (k : Nat) : GB α (N8 (Option α)) := dig
    ⟨fun t => N8.rec (motive := fun _ => Option α) (fun a _ _ _ _ _ _ _ => a) t⟩
    ⟨fun t => N8.rec (motive := fun _ => Option α) (fun _ a _ _ _ _ _ _ => a) t⟩
    ⟨fun t => N8.rec (motive := fun _ => Option α) (fun _ _ a _ _ _ _ _ => a) t⟩
    ⟨fun t => N8.rec (motive := fun _ => Option α) (fun _ _ _ a _ _ _ _ => a) t⟩
    ⟨fun t => N8.rec (motive := fun _ => Option α) (fun _ _ _ _ a _ _ _ => a) t⟩
    ⟨fun t => N8.rec (motive := fun _ => Option α) (fun _ _ _ _ _ a _ _ => a) t⟩
    ⟨fun t => N8.rec (motive := fun _ => Option α) (fun _ _ _ _ _ _ a _ => a) t⟩
    ⟨fun t => N8.rec (motive := fun _ => Option α) (fun _ _ _ _ _ _ _ a => a) t⟩ k
def Lev.upSet (L : Lev α β) (w k : Nat) : SB α (N8 β) := dig
    ⟨fun {γ} x t k' => N8.rec (motive := fun _ => γ) (fun a b c d e f g h => (L.set (Nat.mod k w)).f x a fun a => k' (.mk a b c d e f g h)) t⟩
    ⟨fun {γ} x t k' => N8.rec (motive := fun _ => γ) (fun a b c d e f g h => (L.set (Nat.mod k w)).f x b fun b => k' (.mk a b c d e f g h)) t⟩
    ⟨fun {γ} x t k' => N8.rec (motive := fun _ => γ) (fun a b c d e f g h => (L.set (Nat.mod k w)).f x c fun c => k' (.mk a b c d e f g h)) t⟩
    ⟨fun {γ} x t k' => N8.rec (motive := fun _ => γ) (fun a b c d e f g h => (L.set (Nat.mod k w)).f x d fun d => k' (.mk a b c d e f g h)) t⟩
    ⟨fun {γ} x t k' => N8.rec (motive := fun _ => γ) (fun a b c d e f g h => (L.set (Nat.mod k w)).f x e fun e => k' (.mk a b c d e f g h)) t⟩
    ⟨fun {γ} x t k' => N8.rec (motive := fun _ => γ) (fun a b c d e f g h => (L.set (Nat.mod k w)).f x f fun f => k' (.mk a b c d e f g h)) t⟩
    ⟨fun {γ} x t k' => N8.rec (motive := fun _ => γ) (fun a b c d e f g h => (L.set (Nat.mod k w)).f x g fun g => k' (.mk a b c d e f g h)) t⟩
    ⟨fun {γ} x t k' => N8.rec (motive := fun _ => γ) (fun a b c d e f g h => (L.set (Nat.mod k w)).f x h fun h => k' (.mk a b c d e f g h)) t⟩ (Nat.div k w)
def Lev.upGet (L : Lev α β) (w k : Nat) : GB α (N8 β) := dig
    ⟨fun t => N8.rec (motive := fun _ => Option α) (fun a _ _ _ _ _ _ _ => (L.get (Nat.mod k w)).f a) t⟩
    ⟨fun t => N8.rec (motive := fun _ => Option α) (fun _ a _ _ _ _ _ _ => (L.get (Nat.mod k w)).f a) t⟩
    ⟨fun t => N8.rec (motive := fun _ => Option α) (fun _ _ a _ _ _ _ _ => (L.get (Nat.mod k w)).f a) t⟩
    ⟨fun t => N8.rec (motive := fun _ => Option α) (fun _ _ _ a _ _ _ _ => (L.get (Nat.mod k w)).f a) t⟩
    ⟨fun t => N8.rec (motive := fun _ => Option α) (fun _ _ _ _ a _ _ _ => (L.get (Nat.mod k w)).f a) t⟩
    ⟨fun t => N8.rec (motive := fun _ => Option α) (fun _ _ _ _ _ a _ _ => (L.get (Nat.mod k w)).f a) t⟩
    ⟨fun t => N8.rec (motive := fun _ => Option α) (fun _ _ _ _ _ _ a _ => (L.get (Nat.mod k w)).f a) t⟩
    ⟨fun t => N8.rec (motive := fun _ => Option α) (fun _ _ _ _ _ _ _ a => (L.get (Nat.mod k w)).f a) t⟩ (Nat.div k w)
def Lev.up (L : Lev α β) (w : Nat) : Lev α (N8 β) :=
  ⟨.mk L.emp L.emp L.emp L.emp L.emp L.emp L.emp L.emp, L.upSet w, L.upGet w⟩

structure Lev.OK (L : Lev α β) (w : Nat) : Prop where
  pos : 0 < w
  ge : ∀ k, k < w → (L.get k).f L.emp = none
  gs : ∀ k x t, k < w → (L.get k).f ((L.set k).f x t id) = x
  gn : ∀ k j x t, k < w → j < w → j ≠ k → (L.get j).f ((L.set k).f x t id) = (L.get j).f t
  fr : ∀ {γ : Type} (k : Nat) (x : Option α) (t : β) (k' : β → γ), (L.set k).f x t k' = k' ((L.set k).f x t id)

theorem dig8 {d : Nat} (h : d < 8) : d = 0 ∨ d = 1 ∨ d = 2 ∨ d = 3 ∨ d = 4 ∨ d = 5 ∨ d = 6 ∨ d = 7 := by omega
theorem dig_all {γ : Type u} {p : γ → Prop} {x0 x1 x2 x3 x4 x5 x6 x7 : γ} (h0 : p x0) (h1 : p x1) (h2 : p x2) (h3 : p x3) (h4 : p x4) (h5 : p x5) (h6 : p x6) (h7 : p x7) (d : Nat) : p (dig x0 x1 x2 x3 x4 x5 x6 x7 d) := by
  unfold dig
  cases Nat.ble d 3 <;> cases Nat.ble d 5 <;> cases Nat.ble d 1 <;> cases Nat.beq d 6 <;> cases Nat.beq d 4 <;> cases Nat.beq d 2 <;> cases Nat.beq d 0 <;> assumption

def lev1 (α : Type) : Lev α (N8 (Option α)) := ⟨.mk none none none none none none none none, Lev.set1 α, Lev.get1 α⟩
theorem lev1_ok (α : Type) : (lev1 α).OK 8 where
  pos := by omega
  ge := fun k hk => by
    show (Lev.get1 α k).f _ = none
    unfold Lev.get1
    rcases dig8 hk with h | h | h | h | h | h | h | h <;> rw [h] <;> rfl
  gs := fun k x t hk => by
    show (Lev.get1 α k).f ((Lev.set1 α k).f x t id) = x
    unfold Lev.get1 Lev.set1
    cases t
    rcases dig8 hk with h | h | h | h | h | h | h | h <;> rw [h] <;> rfl
  gn := fun k j x t hk hj hne => by
    show (Lev.get1 α j).f ((Lev.set1 α k).f x t id) = (Lev.get1 α j).f t
    unfold Lev.get1 Lev.set1
    cases t
    rcases dig8 hk with h | h | h | h | h | h | h | h <;> rcases dig8 hj with h' | h' | h' | h' | h' | h' | h' | h' <;> first
      | (exfalso; omega)
      | (rw [h, h']; rfl)
  fr := fun {γ} k x t k' => by
    show (Lev.set1 α k).f x t k' = k' ((Lev.set1 α k).f x t id)
    unfold Lev.set1
    cases t
    exact dig_all (p := fun s : SB α (N8 (Option α)) => s.f x _ k' = k' (s.f x _ id)) rfl rfl rfl rfl rfl rfl rfl rfl k

theorem Lev.up_ok {L : Lev α β} {w : Nat} (hL : L.OK w) : (L.up w).OK (8 * w) where
  pos := by have := hL.pos; omega
  ge := fun k hk => by
    have hd : Nat.div k w < 8 := Nat.div_lt_of_lt_mul (by omega)
    have hm : Nat.mod k w < w := Nat.mod_lt _ hL.pos
    show (L.upGet w k).f _ = none
    unfold Lev.upGet
    rcases dig8 hd with h | h | h | h | h | h | h | h <;> rw [h] <;> exact hL.ge _ hm
  gs := fun k x t hk => by
    have hd : Nat.div k w < 8 := Nat.div_lt_of_lt_mul (by omega)
    have hm : Nat.mod k w < w := Nat.mod_lt _ hL.pos
    show (L.upGet w k).f ((L.upSet w k).f x t id) = x
    unfold Lev.upGet Lev.upSet
    cases t
    rcases dig8 hd with h | h | h | h | h | h | h | h <;> rw [h] <;> exact (congrArg (GB.f _) (hL.fr (Nat.mod k w) x _ _)).trans (hL.gs _ _ _ hm)
  gn := fun k j x t hk hj hne => by
    have hd : Nat.div k w < 8 := Nat.div_lt_of_lt_mul (by omega)
    have hd' : Nat.div j w < 8 := Nat.div_lt_of_lt_mul (by omega)
    have hm : Nat.mod k w < w := Nat.mod_lt _ hL.pos
    have hm' : Nat.mod j w < w := Nat.mod_lt _ hL.pos
    have hq : Nat.div j w = Nat.div k w → Nat.mod j w ≠ Nat.mod k w := fun e e' => hne (by
      have h1 := Nat.div_add_mod j w
      have h2 := Nat.div_add_mod k w
      have e1 : j / w = k / w := e
      have e2 : j % w = k % w := e'
      rw [← h1, ← h2, e1, e2])
    show (L.upGet w j).f ((L.upSet w k).f x t id) = (L.upGet w j).f t
    unfold Lev.upGet Lev.upSet
    cases t
    rcases dig8 hd with h | h | h | h | h | h | h | h <;> rcases dig8 hd' with h' | h' | h' | h' | h' | h' | h' | h' <;> rw [h, h'] <;>
      first
      | exact (congrArg (GB.f _) (hL.fr (Nat.mod k w) x _ _)).trans rfl
      | (rw [h, h'] at hq; exact (congrArg (GB.f _) (hL.fr (Nat.mod k w) x _ _)).trans (hL.gn _ _ _ _ hm hm' (hq rfl)))
  fr := fun {γ} k x t k' => by
    show (L.upSet w k).f x t k' = k' ((L.upSet w k).f x t id)
    unfold Lev.upSet
    cases t
    refine dig_all (p := fun s : SB α (N8 β) => s.f x _ k' = k' (s.f x _ id)) ?_ ?_ ?_ ?_ ?_ ?_ ?_ ?_ _ <;> (simp only [id]; rw [hL.fr]; conv => rhs; rw [hL.fr])
end

/- The levels. -/
section
variable (α : Type)
abbrev T1 : Type := N8 (Option α)
abbrev T2 : Type := N8 (T1 α)
abbrev T3 : Type := N8 (T2 α)
abbrev T4 : Type := N8 (T3 α)
abbrev T5 : Type := N8 (T4 α)
abbrev T6 : Type := N8 (T5 α)
abbrev T7 : Type := N8 (T6 α)
def lev2 : Lev α (T2 α) := (lev1 α).up 8
def lev3 : Lev α (T3 α) := (lev2 α).up 64
def lev4 : Lev α (T4 α) := (lev3 α).up 512
def lev5 : Lev α (T5 α) := (lev4 α).up 4096
def lev6 : Lev α (T6 α) := (lev5 α).up 32768
def lev7 : Lev α (T7 α) := (lev6 α).up 262144
theorem lev2_ok : (lev2 α).OK 64 := Lev.up_ok (lev1_ok α)
theorem lev3_ok : (lev3 α).OK 512 := Lev.up_ok (lev2_ok α)
theorem lev4_ok : (lev4 α).OK 4096 := Lev.up_ok (lev3_ok α)
theorem lev5_ok : (lev5 α).OK 32768 := Lev.up_ok (lev4_ok α)
theorem lev6_ok : (lev6 α).OK 262144 := Lev.up_ok (lev5_ok α)
theorem lev7_ok : (lev7 α).OK 2097152 := Lev.up_ok (lev6_ok α)
end

/-- A map from numbers (below 2097152: else nothing is laid). -/
inductive Tr (α : Type) where
  | e
  | d1 (t : T1 α)
  | d2 (t : T2 α)
  | d3 (t : T3 α)
  | d4 (t : T4 α)
  | d5 (t : T5 α)
  | d6 (t : T6 α)
  | d7 (t : T7 α)

section
variable {α : Type}
/-- What is looked up at a number, by levels. -/
structure GS (α : Type) where
  g1 : T1 α → Option α
  g2 : T2 α → Option α
  g3 : T3 α → Option α
  g4 : T4 α → Option α
  g5 : T5 α → Option α
  g6 : T6 α → Option α
  g7 : T7 α → Option α
def gLev {β : Type} (L : Lev α β) (w k : Nat) : β → Option α := Bool.rec (motive := fun _ => β → Option α) (fun _ => none) (fun t => (L.get k).f t) (Nat.ble (Nat.succ k) w)
def gs0 (α : Type) (k : Nat) : GS α := ⟨((lev1 α).get k).f, ((lev2 α).get k).f, ((lev3 α).get k).f, ((lev4 α).get k).f, ((lev5 α).get k).f, ((lev6 α).get k).f, ((lev7 α).get k).f⟩
def gs1 (α : Type) (k : Nat) : GS α := ⟨fun _ => none, ((lev2 α).get k).f, ((lev3 α).get k).f, ((lev4 α).get k).f, ((lev5 α).get k).f, ((lev6 α).get k).f, ((lev7 α).get k).f⟩
def gs2 (α : Type) (k : Nat) : GS α := ⟨fun _ => none, fun _ => none, ((lev3 α).get k).f, ((lev4 α).get k).f, ((lev5 α).get k).f, ((lev6 α).get k).f, ((lev7 α).get k).f⟩
def gs3 (α : Type) (k : Nat) : GS α := ⟨fun _ => none, fun _ => none, fun _ => none, ((lev4 α).get k).f, ((lev5 α).get k).f, ((lev6 α).get k).f, ((lev7 α).get k).f⟩
def gs4 (α : Type) (k : Nat) : GS α := ⟨fun _ => none, fun _ => none, fun _ => none, fun _ => none, ((lev5 α).get k).f, ((lev6 α).get k).f, ((lev7 α).get k).f⟩
def gs5 (α : Type) (k : Nat) : GS α := ⟨fun _ => none, fun _ => none, fun _ => none, fun _ => none, fun _ => none, ((lev6 α).get k).f, ((lev7 α).get k).f⟩
def gs6 (α : Type) (k : Nat) : GS α := ⟨fun _ => none, fun _ => none, fun _ => none, fun _ => none, fun _ => none, fun _ => none, ((lev7 α).get k).f⟩
def gs7 (α : Type) (_ : Nat) : GS α := ⟨fun _ => none, fun _ => none, fun _ => none, fun _ => none, fun _ => none, fun _ => none, fun _ => none⟩
def gsOf (α : Type) (k : Nat) : GS α := Bool.rec (motive := fun _ => GS α) (Bool.rec (motive := fun _ => GS α) (Bool.rec (motive := fun _ => GS α) (Bool.rec (motive := fun _ => GS α) (Bool.rec (motive := fun _ => GS α) (Bool.rec (motive := fun _ => GS α) (Bool.rec (motive := fun _ => GS α) (gs7 α k) (gs6 α k) (Nat.ble (Nat.succ k) 2097152)) (gs5 α k) (Nat.ble (Nat.succ k) 262144)) (gs4 α k) (Nat.ble (Nat.succ k) 32768)) (gs3 α k) (Nat.ble (Nat.succ k) 4096)) (gs2 α k) (Nat.ble (Nat.succ k) 512)) (gs1 α k) (Nat.ble (Nat.succ k) 64)) (gs0 α k) (Nat.ble (Nat.succ k) 8)
/-- What looks up at a number. -/
structure GT (α : Type) where
  f : Tr α → Option α
def gtOf (α : Type) (k : Nat) : GT α := ⟨fun t => Tr.rec (motive := fun _ => Option α) none (gsOf α k).g1 (gsOf α k).g2 (gsOf α k).g3 (gsOf α k).g4 (gsOf α k).g5 (gsOf α k).g6 (gsOf α k).g7 t⟩
def Tr.get (t : Tr α) (k : Nat) : Option α := (gtOf α k).f t

def N8.fst {β : Type} (t e : β) : N8 β := .mk t e e e e e e e
/-- What lays at a number, by levels. -/
structure SS (α : Type) where
  p0 : {γ : Type} → Option α → (Tr α → γ) → γ
  p1 : {γ : Type} → Option α → T1 α → (Tr α → γ) → γ
  p2 : {γ : Type} → Option α → T2 α → (Tr α → γ) → γ
  p3 : {γ : Type} → Option α → T3 α → (Tr α → γ) → γ
  p4 : {γ : Type} → Option α → T4 α → (Tr α → γ) → γ
  p5 : {γ : Type} → Option α → T5 α → (Tr α → γ) → γ
  p6 : {γ : Type} → Option α → T6 α → (Tr α → γ) → γ
  p7 : {γ : Type} → Option α → T7 α → (Tr α → γ) → γ
def ss1 (α : Type) (k : Nat) : SS α := ⟨fun x k' => ((lev1 α).set k).f x (lev1 α).emp fun t => k' (.d1 t), fun x t k' => ((lev1 α).set k).f x t fun t => k' (.d1 t), fun x t k' => ((lev2 α).set k).f x t fun t => k' (.d2 t), fun x t k' => ((lev3 α).set k).f x t fun t => k' (.d3 t), fun x t k' => ((lev4 α).set k).f x t fun t => k' (.d4 t), fun x t k' => ((lev5 α).set k).f x t fun t => k' (.d5 t), fun x t k' => ((lev6 α).set k).f x t fun t => k' (.d6 t), fun x t k' => ((lev7 α).set k).f x t fun t => k' (.d7 t)⟩
def ss2 (α : Type) (k : Nat) : SS α := ⟨fun x k' => ((lev2 α).set k).f x (lev2 α).emp fun t => k' (.d2 t), fun x t k' => ((lev2 α).set k).f x (.fst t (lev1 α).emp) fun t => k' (.d2 t), fun x t k' => ((lev2 α).set k).f x t fun t => k' (.d2 t), fun x t k' => ((lev3 α).set k).f x t fun t => k' (.d3 t), fun x t k' => ((lev4 α).set k).f x t fun t => k' (.d4 t), fun x t k' => ((lev5 α).set k).f x t fun t => k' (.d5 t), fun x t k' => ((lev6 α).set k).f x t fun t => k' (.d6 t), fun x t k' => ((lev7 α).set k).f x t fun t => k' (.d7 t)⟩
def ss3 (α : Type) (k : Nat) : SS α := ⟨fun x k' => ((lev3 α).set k).f x (lev3 α).emp fun t => k' (.d3 t), fun x t k' => ((lev3 α).set k).f x (.fst (.fst t (lev1 α).emp) (lev2 α).emp) fun t => k' (.d3 t), fun x t k' => ((lev3 α).set k).f x (.fst t (lev2 α).emp) fun t => k' (.d3 t), fun x t k' => ((lev3 α).set k).f x t fun t => k' (.d3 t), fun x t k' => ((lev4 α).set k).f x t fun t => k' (.d4 t), fun x t k' => ((lev5 α).set k).f x t fun t => k' (.d5 t), fun x t k' => ((lev6 α).set k).f x t fun t => k' (.d6 t), fun x t k' => ((lev7 α).set k).f x t fun t => k' (.d7 t)⟩
def ss4 (α : Type) (k : Nat) : SS α := ⟨fun x k' => ((lev4 α).set k).f x (lev4 α).emp fun t => k' (.d4 t), fun x t k' => ((lev4 α).set k).f x (.fst (.fst (.fst t (lev1 α).emp) (lev2 α).emp) (lev3 α).emp) fun t => k' (.d4 t), fun x t k' => ((lev4 α).set k).f x (.fst (.fst t (lev2 α).emp) (lev3 α).emp) fun t => k' (.d4 t), fun x t k' => ((lev4 α).set k).f x (.fst t (lev3 α).emp) fun t => k' (.d4 t), fun x t k' => ((lev4 α).set k).f x t fun t => k' (.d4 t), fun x t k' => ((lev5 α).set k).f x t fun t => k' (.d5 t), fun x t k' => ((lev6 α).set k).f x t fun t => k' (.d6 t), fun x t k' => ((lev7 α).set k).f x t fun t => k' (.d7 t)⟩
def ss5 (α : Type) (k : Nat) : SS α := ⟨fun x k' => ((lev5 α).set k).f x (lev5 α).emp fun t => k' (.d5 t), fun x t k' => ((lev5 α).set k).f x (.fst (.fst (.fst (.fst t (lev1 α).emp) (lev2 α).emp) (lev3 α).emp) (lev4 α).emp) fun t => k' (.d5 t), fun x t k' => ((lev5 α).set k).f x (.fst (.fst (.fst t (lev2 α).emp) (lev3 α).emp) (lev4 α).emp) fun t => k' (.d5 t), fun x t k' => ((lev5 α).set k).f x (.fst (.fst t (lev3 α).emp) (lev4 α).emp) fun t => k' (.d5 t), fun x t k' => ((lev5 α).set k).f x (.fst t (lev4 α).emp) fun t => k' (.d5 t), fun x t k' => ((lev5 α).set k).f x t fun t => k' (.d5 t), fun x t k' => ((lev6 α).set k).f x t fun t => k' (.d6 t), fun x t k' => ((lev7 α).set k).f x t fun t => k' (.d7 t)⟩
def ss6 (α : Type) (k : Nat) : SS α := ⟨fun x k' => ((lev6 α).set k).f x (lev6 α).emp fun t => k' (.d6 t), fun x t k' => ((lev6 α).set k).f x (.fst (.fst (.fst (.fst (.fst t (lev1 α).emp) (lev2 α).emp) (lev3 α).emp) (lev4 α).emp) (lev5 α).emp) fun t => k' (.d6 t), fun x t k' => ((lev6 α).set k).f x (.fst (.fst (.fst (.fst t (lev2 α).emp) (lev3 α).emp) (lev4 α).emp) (lev5 α).emp) fun t => k' (.d6 t), fun x t k' => ((lev6 α).set k).f x (.fst (.fst (.fst t (lev3 α).emp) (lev4 α).emp) (lev5 α).emp) fun t => k' (.d6 t), fun x t k' => ((lev6 α).set k).f x (.fst (.fst t (lev4 α).emp) (lev5 α).emp) fun t => k' (.d6 t), fun x t k' => ((lev6 α).set k).f x (.fst t (lev5 α).emp) fun t => k' (.d6 t), fun x t k' => ((lev6 α).set k).f x t fun t => k' (.d6 t), fun x t k' => ((lev7 α).set k).f x t fun t => k' (.d7 t)⟩
def ss7 (α : Type) (k : Nat) : SS α := ⟨fun x k' => ((lev7 α).set k).f x (lev7 α).emp fun t => k' (.d7 t), fun x t k' => ((lev7 α).set k).f x (.fst (.fst (.fst (.fst (.fst (.fst t (lev1 α).emp) (lev2 α).emp) (lev3 α).emp) (lev4 α).emp) (lev5 α).emp) (lev6 α).emp) fun t => k' (.d7 t), fun x t k' => ((lev7 α).set k).f x (.fst (.fst (.fst (.fst (.fst t (lev2 α).emp) (lev3 α).emp) (lev4 α).emp) (lev5 α).emp) (lev6 α).emp) fun t => k' (.d7 t), fun x t k' => ((lev7 α).set k).f x (.fst (.fst (.fst (.fst t (lev3 α).emp) (lev4 α).emp) (lev5 α).emp) (lev6 α).emp) fun t => k' (.d7 t), fun x t k' => ((lev7 α).set k).f x (.fst (.fst (.fst t (lev4 α).emp) (lev5 α).emp) (lev6 α).emp) fun t => k' (.d7 t), fun x t k' => ((lev7 α).set k).f x (.fst (.fst t (lev5 α).emp) (lev6 α).emp) fun t => k' (.d7 t), fun x t k' => ((lev7 α).set k).f x (.fst t (lev6 α).emp) fun t => k' (.d7 t), fun x t k' => ((lev7 α).set k).f x t fun t => k' (.d7 t)⟩
def ss8 (α : Type) (_ : Nat) : SS α := ⟨fun _ k' => k' .e, fun _ t k' => k' (.d1 t), fun _ t k' => k' (.d2 t), fun _ t k' => k' (.d3 t), fun _ t k' => k' (.d4 t), fun _ t k' => k' (.d5 t), fun _ t k' => k' (.d6 t), fun _ t k' => k' (.d7 t)⟩
def ssOf (α : Type) (k : Nat) : SS α := Bool.rec (motive := fun _ => SS α) (Bool.rec (motive := fun _ => SS α) (Bool.rec (motive := fun _ => SS α) (Bool.rec (motive := fun _ => SS α) (Bool.rec (motive := fun _ => SS α) (Bool.rec (motive := fun _ => SS α) (Bool.rec (motive := fun _ => SS α) (ss8 α k) (ss7 α k) (Nat.ble (Nat.succ k) 2097152)) (ss6 α k) (Nat.ble (Nat.succ k) 262144)) (ss5 α k) (Nat.ble (Nat.succ k) 32768)) (ss4 α k) (Nat.ble (Nat.succ k) 4096)) (ss3 α k) (Nat.ble (Nat.succ k) 512)) (ss2 α k) (Nat.ble (Nat.succ k) 64)) (ss1 α k) (Nat.ble (Nat.succ k) 8)
structure PT (α : Type) where
  f : {γ : Type} → Option α → Tr α → (Tr α → γ) → γ
def ptOf (α : Type) (k : Nat) : PT α := ⟨fun {γ} x t => Tr.rec (motive := fun _ => (Tr α → γ) → γ) ((ssOf α k).p0 x) ((ssOf α k).p1 x) ((ssOf α k).p2 x) ((ssOf α k).p3 x) ((ssOf α k).p4 x) ((ssOf α k).p5 x) ((ssOf α k).p6 x) ((ssOf α k).p7 x) t⟩
/-- What is laid is handed on. -/
def Tr.setK {γ : Type} (t : Tr α) (k : Nat) (x : Option α) (k' : Tr α → γ) : γ := (ptOf α k).f x t k'
def Tr.set (t : Tr α) (k : Nat) (x : Option α) : Tr α := t.setK k x id
def Tr.put (t : Tr α) (k : Nat) (v : α) : Tr α := t.set k (some v)
def Tr.del (t : Tr α) (k : Nat) : Tr α := t.set k none

/- Laws. -/
theorem ble_t {k w : Nat} (h : k < w) : Nat.ble (Nat.succ k) w = true := Nat.ble_eq.mpr h
theorem ble_f {k w : Nat} (h : w ≤ k) : Nat.ble (Nat.succ k) w = false := by
  cases hb : Nat.ble (Nat.succ k) w
  · rfl
  · have := Nat.ble_eq.mp hb; omega
theorem gLev_eq {β : Type} (L : Lev α β) (w k : Nat) (t : β) : gLev L w k t = if k < w then (L.get k).f t else none := by
  unfold gLev
  by_cases h : k < w
  · rw [ble_t h, if_pos h]
  · rw [ble_f (by omega), if_neg h]
theorem gLev_emp {β : Type} {L : Lev α β} {w : Nat} (hL : L.OK w) (k : Nat) : gLev L w k L.emp = none := by
  rw [gLev_eq]
  split
  · rename_i h; exact hL.ge _ h
  · rfl
theorem gLev_set {β : Type} {L : Lev α β} {w : Nat} (hL : L.OK w) {k : Nat} (hk : k < w) (j : Nat) (x : Option α) (t : β) : gLev L w j ((L.set k).f x t id) = if j = k then x else gLev L w j t := by
  rw [gLev_eq, gLev_eq]
  by_cases e : j = k
  · rw [if_pos e, e, if_pos hk, hL.gs _ _ _ hk]
  · rw [if_neg e]
    split
    · rename_i h; exact hL.gn _ _ _ _ hk h e
    · rfl
theorem gLev_fst {β : Type} {L : Lev α β} {w : Nat} (hL : L.OK w) (j : Nat) (t : β) : gLev (L.up w) (8 * w) j (.fst t L.emp) = gLev L w j t := by
  rw [gLev_eq, gLev_eq]
  have hp := hL.pos
  by_cases h : j < w
  · rw [if_pos h, if_pos (by omega)]
    have e : Nat.div j w = 0 := Nat.div_eq_of_lt h
    have e' : Nat.mod j w = j := Nat.mod_eq_of_lt h
    show (L.upGet w j).f _ = _
    unfold Lev.upGet
    rw [e, e']
    rfl
  · rw [if_neg h]
    split
    · rename_i h8
      have hd : Nat.div j w < 8 := Nat.div_lt_of_lt_mul (by omega)
      have hn : Nat.div j w ≠ 0 := fun e => by
        have : j / w = 0 := e
        rw [Nat.div_eq_zero_iff] at this
        omega
      have hm : Nat.mod j w < w := Nat.mod_lt _ hp
      show (L.upGet w j).f _ = _
      unfold Lev.upGet
      rcases dig8 hd with h | h | h | h | h | h | h | h <;> first | exact absurd h hn | (rw [h]; exact hL.ge _ hm)
    · rfl

theorem rng (k : Nat) : k < 8 ∨ (8 ≤ k ∧ k < 64) ∨ (64 ≤ k ∧ k < 512) ∨ (512 ≤ k ∧ k < 4096) ∨ (4096 ≤ k ∧ k < 32768) ∨ (32768 ≤ k ∧ k < 262144) ∨ (262144 ≤ k ∧ k < 2097152) ∨ 2097152 ≤ k := by omega
theorem gsOf_0 {k : Nat} (h : k < 8) : gsOf α k = gs0 α k := by unfold gsOf; rw [ble_t (by omega : k < 8)]
theorem ssOf_1 {k : Nat} (h : k < 8) : ssOf α k = ss1 α k := by unfold ssOf; rw [ble_t (by omega : k < 8)]
theorem gsOf_1 {k : Nat} (h : 8 ≤ k ∧ k < 64) : gsOf α k = gs1 α k := by unfold gsOf; rw [ble_f (by omega : 8 ≤ k), ble_t (by omega : k < 64)]
theorem ssOf_2 {k : Nat} (h : 8 ≤ k ∧ k < 64) : ssOf α k = ss2 α k := by unfold ssOf; rw [ble_f (by omega : 8 ≤ k), ble_t (by omega : k < 64)]
theorem gsOf_2 {k : Nat} (h : 64 ≤ k ∧ k < 512) : gsOf α k = gs2 α k := by unfold gsOf; rw [ble_f (by omega : 8 ≤ k), ble_f (by omega : 64 ≤ k), ble_t (by omega : k < 512)]
theorem ssOf_3 {k : Nat} (h : 64 ≤ k ∧ k < 512) : ssOf α k = ss3 α k := by unfold ssOf; rw [ble_f (by omega : 8 ≤ k), ble_f (by omega : 64 ≤ k), ble_t (by omega : k < 512)]
theorem gsOf_3 {k : Nat} (h : 512 ≤ k ∧ k < 4096) : gsOf α k = gs3 α k := by unfold gsOf; rw [ble_f (by omega : 8 ≤ k), ble_f (by omega : 64 ≤ k), ble_f (by omega : 512 ≤ k), ble_t (by omega : k < 4096)]
theorem ssOf_4 {k : Nat} (h : 512 ≤ k ∧ k < 4096) : ssOf α k = ss4 α k := by unfold ssOf; rw [ble_f (by omega : 8 ≤ k), ble_f (by omega : 64 ≤ k), ble_f (by omega : 512 ≤ k), ble_t (by omega : k < 4096)]
theorem gsOf_4 {k : Nat} (h : 4096 ≤ k ∧ k < 32768) : gsOf α k = gs4 α k := by unfold gsOf; rw [ble_f (by omega : 8 ≤ k), ble_f (by omega : 64 ≤ k), ble_f (by omega : 512 ≤ k), ble_f (by omega : 4096 ≤ k), ble_t (by omega : k < 32768)]
theorem ssOf_5 {k : Nat} (h : 4096 ≤ k ∧ k < 32768) : ssOf α k = ss5 α k := by unfold ssOf; rw [ble_f (by omega : 8 ≤ k), ble_f (by omega : 64 ≤ k), ble_f (by omega : 512 ≤ k), ble_f (by omega : 4096 ≤ k), ble_t (by omega : k < 32768)]
theorem gsOf_5 {k : Nat} (h : 32768 ≤ k ∧ k < 262144) : gsOf α k = gs5 α k := by unfold gsOf; rw [ble_f (by omega : 8 ≤ k), ble_f (by omega : 64 ≤ k), ble_f (by omega : 512 ≤ k), ble_f (by omega : 4096 ≤ k), ble_f (by omega : 32768 ≤ k), ble_t (by omega : k < 262144)]
theorem ssOf_6 {k : Nat} (h : 32768 ≤ k ∧ k < 262144) : ssOf α k = ss6 α k := by unfold ssOf; rw [ble_f (by omega : 8 ≤ k), ble_f (by omega : 64 ≤ k), ble_f (by omega : 512 ≤ k), ble_f (by omega : 4096 ≤ k), ble_f (by omega : 32768 ≤ k), ble_t (by omega : k < 262144)]
theorem gsOf_6 {k : Nat} (h : 262144 ≤ k ∧ k < 2097152) : gsOf α k = gs6 α k := by unfold gsOf; rw [ble_f (by omega : 8 ≤ k), ble_f (by omega : 64 ≤ k), ble_f (by omega : 512 ≤ k), ble_f (by omega : 4096 ≤ k), ble_f (by omega : 32768 ≤ k), ble_f (by omega : 262144 ≤ k), ble_t (by omega : k < 2097152)]
theorem ssOf_7 {k : Nat} (h : 262144 ≤ k ∧ k < 2097152) : ssOf α k = ss7 α k := by unfold ssOf; rw [ble_f (by omega : 8 ≤ k), ble_f (by omega : 64 ≤ k), ble_f (by omega : 512 ≤ k), ble_f (by omega : 4096 ≤ k), ble_f (by omega : 32768 ≤ k), ble_f (by omega : 262144 ≤ k), ble_t (by omega : k < 2097152)]
theorem gsOf_7 {k : Nat} (h : 2097152 ≤ k) : gsOf α k = gs7 α k := by unfold gsOf; rw [ble_f (by omega : 8 ≤ k), ble_f (by omega : 64 ≤ k), ble_f (by omega : 512 ≤ k), ble_f (by omega : 4096 ≤ k), ble_f (by omega : 32768 ≤ k), ble_f (by omega : 262144 ≤ k), ble_f (by omega : 2097152 ≤ k)]
theorem ssOf_8 {k : Nat} (h : 2097152 ≤ k) : ssOf α k = ss8 α k := by unfold ssOf; rw [ble_f (by omega : 8 ≤ k), ble_f (by omega : 64 ≤ k), ble_f (by omega : 512 ≤ k), ble_f (by omega : 4096 ≤ k), ble_f (by omega : 32768 ≤ k), ble_f (by omega : 262144 ≤ k), ble_f (by omega : 2097152 ≤ k)]
@[simp] theorem Tr.get_e (k : Nat) : (Tr.e : Tr α).get k = none := rfl
theorem Tr.get_d1 (t : T1 α) (k : Nat) : (Tr.d1 t).get k = gLev (lev1 α) 8 k t := by
  show (gsOf α k).g1 t = _
  rw [gLev_eq]
  rcases rng k with h | h | h | h | h | h | h | h
  · rw [gsOf_0 h, if_pos (by omega)]; rfl
  · rw [gsOf_1 h, if_neg (by omega)]; rfl
  · rw [gsOf_2 h, if_neg (by omega)]; rfl
  · rw [gsOf_3 h, if_neg (by omega)]; rfl
  · rw [gsOf_4 h, if_neg (by omega)]; rfl
  · rw [gsOf_5 h, if_neg (by omega)]; rfl
  · rw [gsOf_6 h, if_neg (by omega)]; rfl
  · rw [gsOf_7 h, if_neg (by omega)]; rfl
theorem Tr.get_d2 (t : T2 α) (k : Nat) : (Tr.d2 t).get k = gLev (lev2 α) 64 k t := by
  show (gsOf α k).g2 t = _
  rw [gLev_eq]
  rcases rng k with h | h | h | h | h | h | h | h
  · rw [gsOf_0 h, if_pos (by omega)]; rfl
  · rw [gsOf_1 h, if_pos (by omega)]; rfl
  · rw [gsOf_2 h, if_neg (by omega)]; rfl
  · rw [gsOf_3 h, if_neg (by omega)]; rfl
  · rw [gsOf_4 h, if_neg (by omega)]; rfl
  · rw [gsOf_5 h, if_neg (by omega)]; rfl
  · rw [gsOf_6 h, if_neg (by omega)]; rfl
  · rw [gsOf_7 h, if_neg (by omega)]; rfl
theorem Tr.get_d3 (t : T3 α) (k : Nat) : (Tr.d3 t).get k = gLev (lev3 α) 512 k t := by
  show (gsOf α k).g3 t = _
  rw [gLev_eq]
  rcases rng k with h | h | h | h | h | h | h | h
  · rw [gsOf_0 h, if_pos (by omega)]; rfl
  · rw [gsOf_1 h, if_pos (by omega)]; rfl
  · rw [gsOf_2 h, if_pos (by omega)]; rfl
  · rw [gsOf_3 h, if_neg (by omega)]; rfl
  · rw [gsOf_4 h, if_neg (by omega)]; rfl
  · rw [gsOf_5 h, if_neg (by omega)]; rfl
  · rw [gsOf_6 h, if_neg (by omega)]; rfl
  · rw [gsOf_7 h, if_neg (by omega)]; rfl
theorem Tr.get_d4 (t : T4 α) (k : Nat) : (Tr.d4 t).get k = gLev (lev4 α) 4096 k t := by
  show (gsOf α k).g4 t = _
  rw [gLev_eq]
  rcases rng k with h | h | h | h | h | h | h | h
  · rw [gsOf_0 h, if_pos (by omega)]; rfl
  · rw [gsOf_1 h, if_pos (by omega)]; rfl
  · rw [gsOf_2 h, if_pos (by omega)]; rfl
  · rw [gsOf_3 h, if_pos (by omega)]; rfl
  · rw [gsOf_4 h, if_neg (by omega)]; rfl
  · rw [gsOf_5 h, if_neg (by omega)]; rfl
  · rw [gsOf_6 h, if_neg (by omega)]; rfl
  · rw [gsOf_7 h, if_neg (by omega)]; rfl
theorem Tr.get_d5 (t : T5 α) (k : Nat) : (Tr.d5 t).get k = gLev (lev5 α) 32768 k t := by
  show (gsOf α k).g5 t = _
  rw [gLev_eq]
  rcases rng k with h | h | h | h | h | h | h | h
  · rw [gsOf_0 h, if_pos (by omega)]; rfl
  · rw [gsOf_1 h, if_pos (by omega)]; rfl
  · rw [gsOf_2 h, if_pos (by omega)]; rfl
  · rw [gsOf_3 h, if_pos (by omega)]; rfl
  · rw [gsOf_4 h, if_pos (by omega)]; rfl
  · rw [gsOf_5 h, if_neg (by omega)]; rfl
  · rw [gsOf_6 h, if_neg (by omega)]; rfl
  · rw [gsOf_7 h, if_neg (by omega)]; rfl
theorem Tr.get_d6 (t : T6 α) (k : Nat) : (Tr.d6 t).get k = gLev (lev6 α) 262144 k t := by
  show (gsOf α k).g6 t = _
  rw [gLev_eq]
  rcases rng k with h | h | h | h | h | h | h | h
  · rw [gsOf_0 h, if_pos (by omega)]; rfl
  · rw [gsOf_1 h, if_pos (by omega)]; rfl
  · rw [gsOf_2 h, if_pos (by omega)]; rfl
  · rw [gsOf_3 h, if_pos (by omega)]; rfl
  · rw [gsOf_4 h, if_pos (by omega)]; rfl
  · rw [gsOf_5 h, if_pos (by omega)]; rfl
  · rw [gsOf_6 h, if_neg (by omega)]; rfl
  · rw [gsOf_7 h, if_neg (by omega)]; rfl
theorem Tr.get_d7 (t : T7 α) (k : Nat) : (Tr.d7 t).get k = gLev (lev7 α) 2097152 k t := by
  show (gsOf α k).g7 t = _
  rw [gLev_eq]
  rcases rng k with h | h | h | h | h | h | h | h
  · rw [gsOf_0 h, if_pos (by omega)]; rfl
  · rw [gsOf_1 h, if_pos (by omega)]; rfl
  · rw [gsOf_2 h, if_pos (by omega)]; rfl
  · rw [gsOf_3 h, if_pos (by omega)]; rfl
  · rw [gsOf_4 h, if_pos (by omega)]; rfl
  · rw [gsOf_5 h, if_pos (by omega)]; rfl
  · rw [gsOf_6 h, if_pos (by omega)]; rfl
  · rw [gsOf_7 h, if_neg (by omega)]; rfl

/-- What is found behind a 'set'. -/
def After (k : Nat) (x : Option α) (g : Nat → Option α) (t : Tr α) : Prop := ∀ j, t.get j = if j = k ∧ k < 2097152 then x else g j
theorem after_lay {β : Type} {L : Lev α β} {w : Nat} (hL : L.OK w) (hw : w ≤ 2097152) {k : Nat} (hk : k < w) {mk : β → Tr α} (hmk : ∀ t j, (mk t).get j = gLev L w j t) (x : Option α) (t : β) {g : Nat → Option α} (hg : ∀ j, gLev L w j t = g j) :
    After k x g ((L.set k).f x t fun t => id (mk t)) := by
  intro j
  rw [hL.fr]
  show (mk ((L.set k).f x t id)).get j = _
  rw [hmk, gLev_set hL hk, hg]
  by_cases e : j = k
  · rw [if_pos e, if_pos ⟨e, by omega⟩]
  · rw [if_neg e, if_neg (fun q => e q.1)]
theorem after_not {k : Nat} (hk : 2097152 ≤ k) (x : Option α) {g : Nat → Option α} {t : Tr α} (h : ∀ j, t.get j = g j) : After k x g t := fun j => by
  rw [h, if_neg (fun q => by omega)]
theorem Tr.setK_eq {γ : Type} (t : Tr α) (k : Nat) (x : Option α) (k' : Tr α → γ) : t.setK k x k' = k' (t.set k x) := by
  unfold Tr.set
  cases t <;> rcases rng k with h | h | h | h | h | h | h | h
  · show (ssOf α k).p0 x k' = k' ((ssOf α k).p0 x id); rw [ssOf_1 h]; exact (lev1_ok α).fr k x _ _ |>.trans (congrArg k' ((lev1_ok α).fr k x _ _).symm)
  · show (ssOf α k).p0 x k' = k' ((ssOf α k).p0 x id); rw [ssOf_2 h]; exact (lev2_ok α).fr k x _ _ |>.trans (congrArg k' ((lev2_ok α).fr k x _ _).symm)
  · show (ssOf α k).p0 x k' = k' ((ssOf α k).p0 x id); rw [ssOf_3 h]; exact (lev3_ok α).fr k x _ _ |>.trans (congrArg k' ((lev3_ok α).fr k x _ _).symm)
  · show (ssOf α k).p0 x k' = k' ((ssOf α k).p0 x id); rw [ssOf_4 h]; exact (lev4_ok α).fr k x _ _ |>.trans (congrArg k' ((lev4_ok α).fr k x _ _).symm)
  · show (ssOf α k).p0 x k' = k' ((ssOf α k).p0 x id); rw [ssOf_5 h]; exact (lev5_ok α).fr k x _ _ |>.trans (congrArg k' ((lev5_ok α).fr k x _ _).symm)
  · show (ssOf α k).p0 x k' = k' ((ssOf α k).p0 x id); rw [ssOf_6 h]; exact (lev6_ok α).fr k x _ _ |>.trans (congrArg k' ((lev6_ok α).fr k x _ _).symm)
  · show (ssOf α k).p0 x k' = k' ((ssOf α k).p0 x id); rw [ssOf_7 h]; exact (lev7_ok α).fr k x _ _ |>.trans (congrArg k' ((lev7_ok α).fr k x _ _).symm)
  · show (ssOf α k).p0 x k' = k' ((ssOf α k).p0 x id); rw [ssOf_8 h]; rfl
  · rename_i t; show (ssOf α k).p1 x t k' = k' ((ssOf α k).p1 x t id); rw [ssOf_1 h]; exact (lev1_ok α).fr k x _ _ |>.trans (congrArg k' ((lev1_ok α).fr k x _ _).symm)
  · rename_i t; show (ssOf α k).p1 x t k' = k' ((ssOf α k).p1 x t id); rw [ssOf_2 h]; exact (lev2_ok α).fr k x _ _ |>.trans (congrArg k' ((lev2_ok α).fr k x _ _).symm)
  · rename_i t; show (ssOf α k).p1 x t k' = k' ((ssOf α k).p1 x t id); rw [ssOf_3 h]; exact (lev3_ok α).fr k x _ _ |>.trans (congrArg k' ((lev3_ok α).fr k x _ _).symm)
  · rename_i t; show (ssOf α k).p1 x t k' = k' ((ssOf α k).p1 x t id); rw [ssOf_4 h]; exact (lev4_ok α).fr k x _ _ |>.trans (congrArg k' ((lev4_ok α).fr k x _ _).symm)
  · rename_i t; show (ssOf α k).p1 x t k' = k' ((ssOf α k).p1 x t id); rw [ssOf_5 h]; exact (lev5_ok α).fr k x _ _ |>.trans (congrArg k' ((lev5_ok α).fr k x _ _).symm)
  · rename_i t; show (ssOf α k).p1 x t k' = k' ((ssOf α k).p1 x t id); rw [ssOf_6 h]; exact (lev6_ok α).fr k x _ _ |>.trans (congrArg k' ((lev6_ok α).fr k x _ _).symm)
  · rename_i t; show (ssOf α k).p1 x t k' = k' ((ssOf α k).p1 x t id); rw [ssOf_7 h]; exact (lev7_ok α).fr k x _ _ |>.trans (congrArg k' ((lev7_ok α).fr k x _ _).symm)
  · rename_i t; show (ssOf α k).p1 x t k' = k' ((ssOf α k).p1 x t id); rw [ssOf_8 h]; rfl
  · rename_i t; show (ssOf α k).p2 x t k' = k' ((ssOf α k).p2 x t id); rw [ssOf_1 h]; exact (lev2_ok α).fr k x _ _ |>.trans (congrArg k' ((lev2_ok α).fr k x _ _).symm)
  · rename_i t; show (ssOf α k).p2 x t k' = k' ((ssOf α k).p2 x t id); rw [ssOf_2 h]; exact (lev2_ok α).fr k x _ _ |>.trans (congrArg k' ((lev2_ok α).fr k x _ _).symm)
  · rename_i t; show (ssOf α k).p2 x t k' = k' ((ssOf α k).p2 x t id); rw [ssOf_3 h]; exact (lev3_ok α).fr k x _ _ |>.trans (congrArg k' ((lev3_ok α).fr k x _ _).symm)
  · rename_i t; show (ssOf α k).p2 x t k' = k' ((ssOf α k).p2 x t id); rw [ssOf_4 h]; exact (lev4_ok α).fr k x _ _ |>.trans (congrArg k' ((lev4_ok α).fr k x _ _).symm)
  · rename_i t; show (ssOf α k).p2 x t k' = k' ((ssOf α k).p2 x t id); rw [ssOf_5 h]; exact (lev5_ok α).fr k x _ _ |>.trans (congrArg k' ((lev5_ok α).fr k x _ _).symm)
  · rename_i t; show (ssOf α k).p2 x t k' = k' ((ssOf α k).p2 x t id); rw [ssOf_6 h]; exact (lev6_ok α).fr k x _ _ |>.trans (congrArg k' ((lev6_ok α).fr k x _ _).symm)
  · rename_i t; show (ssOf α k).p2 x t k' = k' ((ssOf α k).p2 x t id); rw [ssOf_7 h]; exact (lev7_ok α).fr k x _ _ |>.trans (congrArg k' ((lev7_ok α).fr k x _ _).symm)
  · rename_i t; show (ssOf α k).p2 x t k' = k' ((ssOf α k).p2 x t id); rw [ssOf_8 h]; rfl
  · rename_i t; show (ssOf α k).p3 x t k' = k' ((ssOf α k).p3 x t id); rw [ssOf_1 h]; exact (lev3_ok α).fr k x _ _ |>.trans (congrArg k' ((lev3_ok α).fr k x _ _).symm)
  · rename_i t; show (ssOf α k).p3 x t k' = k' ((ssOf α k).p3 x t id); rw [ssOf_2 h]; exact (lev3_ok α).fr k x _ _ |>.trans (congrArg k' ((lev3_ok α).fr k x _ _).symm)
  · rename_i t; show (ssOf α k).p3 x t k' = k' ((ssOf α k).p3 x t id); rw [ssOf_3 h]; exact (lev3_ok α).fr k x _ _ |>.trans (congrArg k' ((lev3_ok α).fr k x _ _).symm)
  · rename_i t; show (ssOf α k).p3 x t k' = k' ((ssOf α k).p3 x t id); rw [ssOf_4 h]; exact (lev4_ok α).fr k x _ _ |>.trans (congrArg k' ((lev4_ok α).fr k x _ _).symm)
  · rename_i t; show (ssOf α k).p3 x t k' = k' ((ssOf α k).p3 x t id); rw [ssOf_5 h]; exact (lev5_ok α).fr k x _ _ |>.trans (congrArg k' ((lev5_ok α).fr k x _ _).symm)
  · rename_i t; show (ssOf α k).p3 x t k' = k' ((ssOf α k).p3 x t id); rw [ssOf_6 h]; exact (lev6_ok α).fr k x _ _ |>.trans (congrArg k' ((lev6_ok α).fr k x _ _).symm)
  · rename_i t; show (ssOf α k).p3 x t k' = k' ((ssOf α k).p3 x t id); rw [ssOf_7 h]; exact (lev7_ok α).fr k x _ _ |>.trans (congrArg k' ((lev7_ok α).fr k x _ _).symm)
  · rename_i t; show (ssOf α k).p3 x t k' = k' ((ssOf α k).p3 x t id); rw [ssOf_8 h]; rfl
  · rename_i t; show (ssOf α k).p4 x t k' = k' ((ssOf α k).p4 x t id); rw [ssOf_1 h]; exact (lev4_ok α).fr k x _ _ |>.trans (congrArg k' ((lev4_ok α).fr k x _ _).symm)
  · rename_i t; show (ssOf α k).p4 x t k' = k' ((ssOf α k).p4 x t id); rw [ssOf_2 h]; exact (lev4_ok α).fr k x _ _ |>.trans (congrArg k' ((lev4_ok α).fr k x _ _).symm)
  · rename_i t; show (ssOf α k).p4 x t k' = k' ((ssOf α k).p4 x t id); rw [ssOf_3 h]; exact (lev4_ok α).fr k x _ _ |>.trans (congrArg k' ((lev4_ok α).fr k x _ _).symm)
  · rename_i t; show (ssOf α k).p4 x t k' = k' ((ssOf α k).p4 x t id); rw [ssOf_4 h]; exact (lev4_ok α).fr k x _ _ |>.trans (congrArg k' ((lev4_ok α).fr k x _ _).symm)
  · rename_i t; show (ssOf α k).p4 x t k' = k' ((ssOf α k).p4 x t id); rw [ssOf_5 h]; exact (lev5_ok α).fr k x _ _ |>.trans (congrArg k' ((lev5_ok α).fr k x _ _).symm)
  · rename_i t; show (ssOf α k).p4 x t k' = k' ((ssOf α k).p4 x t id); rw [ssOf_6 h]; exact (lev6_ok α).fr k x _ _ |>.trans (congrArg k' ((lev6_ok α).fr k x _ _).symm)
  · rename_i t; show (ssOf α k).p4 x t k' = k' ((ssOf α k).p4 x t id); rw [ssOf_7 h]; exact (lev7_ok α).fr k x _ _ |>.trans (congrArg k' ((lev7_ok α).fr k x _ _).symm)
  · rename_i t; show (ssOf α k).p4 x t k' = k' ((ssOf α k).p4 x t id); rw [ssOf_8 h]; rfl
  · rename_i t; show (ssOf α k).p5 x t k' = k' ((ssOf α k).p5 x t id); rw [ssOf_1 h]; exact (lev5_ok α).fr k x _ _ |>.trans (congrArg k' ((lev5_ok α).fr k x _ _).symm)
  · rename_i t; show (ssOf α k).p5 x t k' = k' ((ssOf α k).p5 x t id); rw [ssOf_2 h]; exact (lev5_ok α).fr k x _ _ |>.trans (congrArg k' ((lev5_ok α).fr k x _ _).symm)
  · rename_i t; show (ssOf α k).p5 x t k' = k' ((ssOf α k).p5 x t id); rw [ssOf_3 h]; exact (lev5_ok α).fr k x _ _ |>.trans (congrArg k' ((lev5_ok α).fr k x _ _).symm)
  · rename_i t; show (ssOf α k).p5 x t k' = k' ((ssOf α k).p5 x t id); rw [ssOf_4 h]; exact (lev5_ok α).fr k x _ _ |>.trans (congrArg k' ((lev5_ok α).fr k x _ _).symm)
  · rename_i t; show (ssOf α k).p5 x t k' = k' ((ssOf α k).p5 x t id); rw [ssOf_5 h]; exact (lev5_ok α).fr k x _ _ |>.trans (congrArg k' ((lev5_ok α).fr k x _ _).symm)
  · rename_i t; show (ssOf α k).p5 x t k' = k' ((ssOf α k).p5 x t id); rw [ssOf_6 h]; exact (lev6_ok α).fr k x _ _ |>.trans (congrArg k' ((lev6_ok α).fr k x _ _).symm)
  · rename_i t; show (ssOf α k).p5 x t k' = k' ((ssOf α k).p5 x t id); rw [ssOf_7 h]; exact (lev7_ok α).fr k x _ _ |>.trans (congrArg k' ((lev7_ok α).fr k x _ _).symm)
  · rename_i t; show (ssOf α k).p5 x t k' = k' ((ssOf α k).p5 x t id); rw [ssOf_8 h]; rfl
  · rename_i t; show (ssOf α k).p6 x t k' = k' ((ssOf α k).p6 x t id); rw [ssOf_1 h]; exact (lev6_ok α).fr k x _ _ |>.trans (congrArg k' ((lev6_ok α).fr k x _ _).symm)
  · rename_i t; show (ssOf α k).p6 x t k' = k' ((ssOf α k).p6 x t id); rw [ssOf_2 h]; exact (lev6_ok α).fr k x _ _ |>.trans (congrArg k' ((lev6_ok α).fr k x _ _).symm)
  · rename_i t; show (ssOf α k).p6 x t k' = k' ((ssOf α k).p6 x t id); rw [ssOf_3 h]; exact (lev6_ok α).fr k x _ _ |>.trans (congrArg k' ((lev6_ok α).fr k x _ _).symm)
  · rename_i t; show (ssOf α k).p6 x t k' = k' ((ssOf α k).p6 x t id); rw [ssOf_4 h]; exact (lev6_ok α).fr k x _ _ |>.trans (congrArg k' ((lev6_ok α).fr k x _ _).symm)
  · rename_i t; show (ssOf α k).p6 x t k' = k' ((ssOf α k).p6 x t id); rw [ssOf_5 h]; exact (lev6_ok α).fr k x _ _ |>.trans (congrArg k' ((lev6_ok α).fr k x _ _).symm)
  · rename_i t; show (ssOf α k).p6 x t k' = k' ((ssOf α k).p6 x t id); rw [ssOf_6 h]; exact (lev6_ok α).fr k x _ _ |>.trans (congrArg k' ((lev6_ok α).fr k x _ _).symm)
  · rename_i t; show (ssOf α k).p6 x t k' = k' ((ssOf α k).p6 x t id); rw [ssOf_7 h]; exact (lev7_ok α).fr k x _ _ |>.trans (congrArg k' ((lev7_ok α).fr k x _ _).symm)
  · rename_i t; show (ssOf α k).p6 x t k' = k' ((ssOf α k).p6 x t id); rw [ssOf_8 h]; rfl
  · rename_i t; show (ssOf α k).p7 x t k' = k' ((ssOf α k).p7 x t id); rw [ssOf_1 h]; exact (lev7_ok α).fr k x _ _ |>.trans (congrArg k' ((lev7_ok α).fr k x _ _).symm)
  · rename_i t; show (ssOf α k).p7 x t k' = k' ((ssOf α k).p7 x t id); rw [ssOf_2 h]; exact (lev7_ok α).fr k x _ _ |>.trans (congrArg k' ((lev7_ok α).fr k x _ _).symm)
  · rename_i t; show (ssOf α k).p7 x t k' = k' ((ssOf α k).p7 x t id); rw [ssOf_3 h]; exact (lev7_ok α).fr k x _ _ |>.trans (congrArg k' ((lev7_ok α).fr k x _ _).symm)
  · rename_i t; show (ssOf α k).p7 x t k' = k' ((ssOf α k).p7 x t id); rw [ssOf_4 h]; exact (lev7_ok α).fr k x _ _ |>.trans (congrArg k' ((lev7_ok α).fr k x _ _).symm)
  · rename_i t; show (ssOf α k).p7 x t k' = k' ((ssOf α k).p7 x t id); rw [ssOf_5 h]; exact (lev7_ok α).fr k x _ _ |>.trans (congrArg k' ((lev7_ok α).fr k x _ _).symm)
  · rename_i t; show (ssOf α k).p7 x t k' = k' ((ssOf α k).p7 x t id); rw [ssOf_6 h]; exact (lev7_ok α).fr k x _ _ |>.trans (congrArg k' ((lev7_ok α).fr k x _ _).symm)
  · rename_i t; show (ssOf α k).p7 x t k' = k' ((ssOf α k).p7 x t id); rw [ssOf_7 h]; exact (lev7_ok α).fr k x _ _ |>.trans (congrArg k' ((lev7_ok α).fr k x _ _).symm)
  · rename_i t; show (ssOf α k).p7 x t k' = k' ((ssOf α k).p7 x t id); rw [ssOf_8 h]; rfl
theorem Tr.after (t : Tr α) (k : Nat) (x : Option α) : After k x t.get (t.set k x) := by
  unfold Tr.set
  cases t <;> rcases rng k with h | h | h | h | h | h | h | h
  · show After k x _ ((ssOf α k).p0 x id); rw [ssOf_1 h]; exact after_lay (lev1_ok α) (by omega) (by omega) (fun t j => Tr.get_d1 t j) x _ (fun j => gLev_emp (lev1_ok α) j)
  · show After k x _ ((ssOf α k).p0 x id); rw [ssOf_2 h]; exact after_lay (lev2_ok α) (by omega) (by omega) (fun t j => Tr.get_d2 t j) x _ (fun j => gLev_emp (lev2_ok α) j)
  · show After k x _ ((ssOf α k).p0 x id); rw [ssOf_3 h]; exact after_lay (lev3_ok α) (by omega) (by omega) (fun t j => Tr.get_d3 t j) x _ (fun j => gLev_emp (lev3_ok α) j)
  · show After k x _ ((ssOf α k).p0 x id); rw [ssOf_4 h]; exact after_lay (lev4_ok α) (by omega) (by omega) (fun t j => Tr.get_d4 t j) x _ (fun j => gLev_emp (lev4_ok α) j)
  · show After k x _ ((ssOf α k).p0 x id); rw [ssOf_5 h]; exact after_lay (lev5_ok α) (by omega) (by omega) (fun t j => Tr.get_d5 t j) x _ (fun j => gLev_emp (lev5_ok α) j)
  · show After k x _ ((ssOf α k).p0 x id); rw [ssOf_6 h]; exact after_lay (lev6_ok α) (by omega) (by omega) (fun t j => Tr.get_d6 t j) x _ (fun j => gLev_emp (lev6_ok α) j)
  · show After k x _ ((ssOf α k).p0 x id); rw [ssOf_7 h]; exact after_lay (lev7_ok α) (by omega) (by omega) (fun t j => Tr.get_d7 t j) x _ (fun j => gLev_emp (lev7_ok α) j)
  · show After k x _ ((ssOf α k).p0 x id); rw [ssOf_8 h]; exact after_not h x fun _ => rfl
  · rename_i t; show After k x _ ((ssOf α k).p1 x t id); rw [ssOf_1 h]; exact after_lay (lev1_ok α) (by omega) (by omega) (fun t j => Tr.get_d1 t j) x _ (fun j => (Tr.get_d1 t j).symm)
  · rename_i t; show After k x _ ((ssOf α k).p1 x t id); rw [ssOf_2 h]; exact after_lay (lev2_ok α) (by omega) (by omega) (fun t j => Tr.get_d2 t j) x _ (fun j => (gLev_fst (lev1_ok α) j _).trans ((Tr.get_d1 t j).symm))
  · rename_i t; show After k x _ ((ssOf α k).p1 x t id); rw [ssOf_3 h]; exact after_lay (lev3_ok α) (by omega) (by omega) (fun t j => Tr.get_d3 t j) x _ (fun j => (gLev_fst (lev2_ok α) j _).trans ((gLev_fst (lev1_ok α) j _).trans ((Tr.get_d1 t j).symm)))
  · rename_i t; show After k x _ ((ssOf α k).p1 x t id); rw [ssOf_4 h]; exact after_lay (lev4_ok α) (by omega) (by omega) (fun t j => Tr.get_d4 t j) x _ (fun j => (gLev_fst (lev3_ok α) j _).trans ((gLev_fst (lev2_ok α) j _).trans ((gLev_fst (lev1_ok α) j _).trans ((Tr.get_d1 t j).symm))))
  · rename_i t; show After k x _ ((ssOf α k).p1 x t id); rw [ssOf_5 h]; exact after_lay (lev5_ok α) (by omega) (by omega) (fun t j => Tr.get_d5 t j) x _ (fun j => (gLev_fst (lev4_ok α) j _).trans ((gLev_fst (lev3_ok α) j _).trans ((gLev_fst (lev2_ok α) j _).trans ((gLev_fst (lev1_ok α) j _).trans ((Tr.get_d1 t j).symm)))))
  · rename_i t; show After k x _ ((ssOf α k).p1 x t id); rw [ssOf_6 h]; exact after_lay (lev6_ok α) (by omega) (by omega) (fun t j => Tr.get_d6 t j) x _ (fun j => (gLev_fst (lev5_ok α) j _).trans ((gLev_fst (lev4_ok α) j _).trans ((gLev_fst (lev3_ok α) j _).trans ((gLev_fst (lev2_ok α) j _).trans ((gLev_fst (lev1_ok α) j _).trans ((Tr.get_d1 t j).symm))))))
  · rename_i t; show After k x _ ((ssOf α k).p1 x t id); rw [ssOf_7 h]; exact after_lay (lev7_ok α) (by omega) (by omega) (fun t j => Tr.get_d7 t j) x _ (fun j => (gLev_fst (lev6_ok α) j _).trans ((gLev_fst (lev5_ok α) j _).trans ((gLev_fst (lev4_ok α) j _).trans ((gLev_fst (lev3_ok α) j _).trans ((gLev_fst (lev2_ok α) j _).trans ((gLev_fst (lev1_ok α) j _).trans ((Tr.get_d1 t j).symm)))))))
  · rename_i t; show After k x _ ((ssOf α k).p1 x t id); rw [ssOf_8 h]; exact after_not h x fun _ => rfl
  · rename_i t; show After k x _ ((ssOf α k).p2 x t id); rw [ssOf_1 h]; exact after_lay (lev2_ok α) (by omega) (by omega) (fun t j => Tr.get_d2 t j) x _ (fun j => (Tr.get_d2 t j).symm)
  · rename_i t; show After k x _ ((ssOf α k).p2 x t id); rw [ssOf_2 h]; exact after_lay (lev2_ok α) (by omega) (by omega) (fun t j => Tr.get_d2 t j) x _ (fun j => (Tr.get_d2 t j).symm)
  · rename_i t; show After k x _ ((ssOf α k).p2 x t id); rw [ssOf_3 h]; exact after_lay (lev3_ok α) (by omega) (by omega) (fun t j => Tr.get_d3 t j) x _ (fun j => (gLev_fst (lev2_ok α) j _).trans ((Tr.get_d2 t j).symm))
  · rename_i t; show After k x _ ((ssOf α k).p2 x t id); rw [ssOf_4 h]; exact after_lay (lev4_ok α) (by omega) (by omega) (fun t j => Tr.get_d4 t j) x _ (fun j => (gLev_fst (lev3_ok α) j _).trans ((gLev_fst (lev2_ok α) j _).trans ((Tr.get_d2 t j).symm)))
  · rename_i t; show After k x _ ((ssOf α k).p2 x t id); rw [ssOf_5 h]; exact after_lay (lev5_ok α) (by omega) (by omega) (fun t j => Tr.get_d5 t j) x _ (fun j => (gLev_fst (lev4_ok α) j _).trans ((gLev_fst (lev3_ok α) j _).trans ((gLev_fst (lev2_ok α) j _).trans ((Tr.get_d2 t j).symm))))
  · rename_i t; show After k x _ ((ssOf α k).p2 x t id); rw [ssOf_6 h]; exact after_lay (lev6_ok α) (by omega) (by omega) (fun t j => Tr.get_d6 t j) x _ (fun j => (gLev_fst (lev5_ok α) j _).trans ((gLev_fst (lev4_ok α) j _).trans ((gLev_fst (lev3_ok α) j _).trans ((gLev_fst (lev2_ok α) j _).trans ((Tr.get_d2 t j).symm)))))
  · rename_i t; show After k x _ ((ssOf α k).p2 x t id); rw [ssOf_7 h]; exact after_lay (lev7_ok α) (by omega) (by omega) (fun t j => Tr.get_d7 t j) x _ (fun j => (gLev_fst (lev6_ok α) j _).trans ((gLev_fst (lev5_ok α) j _).trans ((gLev_fst (lev4_ok α) j _).trans ((gLev_fst (lev3_ok α) j _).trans ((gLev_fst (lev2_ok α) j _).trans ((Tr.get_d2 t j).symm))))))
  · rename_i t; show After k x _ ((ssOf α k).p2 x t id); rw [ssOf_8 h]; exact after_not h x fun _ => rfl
  · rename_i t; show After k x _ ((ssOf α k).p3 x t id); rw [ssOf_1 h]; exact after_lay (lev3_ok α) (by omega) (by omega) (fun t j => Tr.get_d3 t j) x _ (fun j => (Tr.get_d3 t j).symm)
  · rename_i t; show After k x _ ((ssOf α k).p3 x t id); rw [ssOf_2 h]; exact after_lay (lev3_ok α) (by omega) (by omega) (fun t j => Tr.get_d3 t j) x _ (fun j => (Tr.get_d3 t j).symm)
  · rename_i t; show After k x _ ((ssOf α k).p3 x t id); rw [ssOf_3 h]; exact after_lay (lev3_ok α) (by omega) (by omega) (fun t j => Tr.get_d3 t j) x _ (fun j => (Tr.get_d3 t j).symm)
  · rename_i t; show After k x _ ((ssOf α k).p3 x t id); rw [ssOf_4 h]; exact after_lay (lev4_ok α) (by omega) (by omega) (fun t j => Tr.get_d4 t j) x _ (fun j => (gLev_fst (lev3_ok α) j _).trans ((Tr.get_d3 t j).symm))
  · rename_i t; show After k x _ ((ssOf α k).p3 x t id); rw [ssOf_5 h]; exact after_lay (lev5_ok α) (by omega) (by omega) (fun t j => Tr.get_d5 t j) x _ (fun j => (gLev_fst (lev4_ok α) j _).trans ((gLev_fst (lev3_ok α) j _).trans ((Tr.get_d3 t j).symm)))
  · rename_i t; show After k x _ ((ssOf α k).p3 x t id); rw [ssOf_6 h]; exact after_lay (lev6_ok α) (by omega) (by omega) (fun t j => Tr.get_d6 t j) x _ (fun j => (gLev_fst (lev5_ok α) j _).trans ((gLev_fst (lev4_ok α) j _).trans ((gLev_fst (lev3_ok α) j _).trans ((Tr.get_d3 t j).symm))))
  · rename_i t; show After k x _ ((ssOf α k).p3 x t id); rw [ssOf_7 h]; exact after_lay (lev7_ok α) (by omega) (by omega) (fun t j => Tr.get_d7 t j) x _ (fun j => (gLev_fst (lev6_ok α) j _).trans ((gLev_fst (lev5_ok α) j _).trans ((gLev_fst (lev4_ok α) j _).trans ((gLev_fst (lev3_ok α) j _).trans ((Tr.get_d3 t j).symm)))))
  · rename_i t; show After k x _ ((ssOf α k).p3 x t id); rw [ssOf_8 h]; exact after_not h x fun _ => rfl
  · rename_i t; show After k x _ ((ssOf α k).p4 x t id); rw [ssOf_1 h]; exact after_lay (lev4_ok α) (by omega) (by omega) (fun t j => Tr.get_d4 t j) x _ (fun j => (Tr.get_d4 t j).symm)
  · rename_i t; show After k x _ ((ssOf α k).p4 x t id); rw [ssOf_2 h]; exact after_lay (lev4_ok α) (by omega) (by omega) (fun t j => Tr.get_d4 t j) x _ (fun j => (Tr.get_d4 t j).symm)
  · rename_i t; show After k x _ ((ssOf α k).p4 x t id); rw [ssOf_3 h]; exact after_lay (lev4_ok α) (by omega) (by omega) (fun t j => Tr.get_d4 t j) x _ (fun j => (Tr.get_d4 t j).symm)
  · rename_i t; show After k x _ ((ssOf α k).p4 x t id); rw [ssOf_4 h]; exact after_lay (lev4_ok α) (by omega) (by omega) (fun t j => Tr.get_d4 t j) x _ (fun j => (Tr.get_d4 t j).symm)
  · rename_i t; show After k x _ ((ssOf α k).p4 x t id); rw [ssOf_5 h]; exact after_lay (lev5_ok α) (by omega) (by omega) (fun t j => Tr.get_d5 t j) x _ (fun j => (gLev_fst (lev4_ok α) j _).trans ((Tr.get_d4 t j).symm))
  · rename_i t; show After k x _ ((ssOf α k).p4 x t id); rw [ssOf_6 h]; exact after_lay (lev6_ok α) (by omega) (by omega) (fun t j => Tr.get_d6 t j) x _ (fun j => (gLev_fst (lev5_ok α) j _).trans ((gLev_fst (lev4_ok α) j _).trans ((Tr.get_d4 t j).symm)))
  · rename_i t; show After k x _ ((ssOf α k).p4 x t id); rw [ssOf_7 h]; exact after_lay (lev7_ok α) (by omega) (by omega) (fun t j => Tr.get_d7 t j) x _ (fun j => (gLev_fst (lev6_ok α) j _).trans ((gLev_fst (lev5_ok α) j _).trans ((gLev_fst (lev4_ok α) j _).trans ((Tr.get_d4 t j).symm))))
  · rename_i t; show After k x _ ((ssOf α k).p4 x t id); rw [ssOf_8 h]; exact after_not h x fun _ => rfl
  · rename_i t; show After k x _ ((ssOf α k).p5 x t id); rw [ssOf_1 h]; exact after_lay (lev5_ok α) (by omega) (by omega) (fun t j => Tr.get_d5 t j) x _ (fun j => (Tr.get_d5 t j).symm)
  · rename_i t; show After k x _ ((ssOf α k).p5 x t id); rw [ssOf_2 h]; exact after_lay (lev5_ok α) (by omega) (by omega) (fun t j => Tr.get_d5 t j) x _ (fun j => (Tr.get_d5 t j).symm)
  · rename_i t; show After k x _ ((ssOf α k).p5 x t id); rw [ssOf_3 h]; exact after_lay (lev5_ok α) (by omega) (by omega) (fun t j => Tr.get_d5 t j) x _ (fun j => (Tr.get_d5 t j).symm)
  · rename_i t; show After k x _ ((ssOf α k).p5 x t id); rw [ssOf_4 h]; exact after_lay (lev5_ok α) (by omega) (by omega) (fun t j => Tr.get_d5 t j) x _ (fun j => (Tr.get_d5 t j).symm)
  · rename_i t; show After k x _ ((ssOf α k).p5 x t id); rw [ssOf_5 h]; exact after_lay (lev5_ok α) (by omega) (by omega) (fun t j => Tr.get_d5 t j) x _ (fun j => (Tr.get_d5 t j).symm)
  · rename_i t; show After k x _ ((ssOf α k).p5 x t id); rw [ssOf_6 h]; exact after_lay (lev6_ok α) (by omega) (by omega) (fun t j => Tr.get_d6 t j) x _ (fun j => (gLev_fst (lev5_ok α) j _).trans ((Tr.get_d5 t j).symm))
  · rename_i t; show After k x _ ((ssOf α k).p5 x t id); rw [ssOf_7 h]; exact after_lay (lev7_ok α) (by omega) (by omega) (fun t j => Tr.get_d7 t j) x _ (fun j => (gLev_fst (lev6_ok α) j _).trans ((gLev_fst (lev5_ok α) j _).trans ((Tr.get_d5 t j).symm)))
  · rename_i t; show After k x _ ((ssOf α k).p5 x t id); rw [ssOf_8 h]; exact after_not h x fun _ => rfl
  · rename_i t; show After k x _ ((ssOf α k).p6 x t id); rw [ssOf_1 h]; exact after_lay (lev6_ok α) (by omega) (by omega) (fun t j => Tr.get_d6 t j) x _ (fun j => (Tr.get_d6 t j).symm)
  · rename_i t; show After k x _ ((ssOf α k).p6 x t id); rw [ssOf_2 h]; exact after_lay (lev6_ok α) (by omega) (by omega) (fun t j => Tr.get_d6 t j) x _ (fun j => (Tr.get_d6 t j).symm)
  · rename_i t; show After k x _ ((ssOf α k).p6 x t id); rw [ssOf_3 h]; exact after_lay (lev6_ok α) (by omega) (by omega) (fun t j => Tr.get_d6 t j) x _ (fun j => (Tr.get_d6 t j).symm)
  · rename_i t; show After k x _ ((ssOf α k).p6 x t id); rw [ssOf_4 h]; exact after_lay (lev6_ok α) (by omega) (by omega) (fun t j => Tr.get_d6 t j) x _ (fun j => (Tr.get_d6 t j).symm)
  · rename_i t; show After k x _ ((ssOf α k).p6 x t id); rw [ssOf_5 h]; exact after_lay (lev6_ok α) (by omega) (by omega) (fun t j => Tr.get_d6 t j) x _ (fun j => (Tr.get_d6 t j).symm)
  · rename_i t; show After k x _ ((ssOf α k).p6 x t id); rw [ssOf_6 h]; exact after_lay (lev6_ok α) (by omega) (by omega) (fun t j => Tr.get_d6 t j) x _ (fun j => (Tr.get_d6 t j).symm)
  · rename_i t; show After k x _ ((ssOf α k).p6 x t id); rw [ssOf_7 h]; exact after_lay (lev7_ok α) (by omega) (by omega) (fun t j => Tr.get_d7 t j) x _ (fun j => (gLev_fst (lev6_ok α) j _).trans ((Tr.get_d6 t j).symm))
  · rename_i t; show After k x _ ((ssOf α k).p6 x t id); rw [ssOf_8 h]; exact after_not h x fun _ => rfl
  · rename_i t; show After k x _ ((ssOf α k).p7 x t id); rw [ssOf_1 h]; exact after_lay (lev7_ok α) (by omega) (by omega) (fun t j => Tr.get_d7 t j) x _ (fun j => (Tr.get_d7 t j).symm)
  · rename_i t; show After k x _ ((ssOf α k).p7 x t id); rw [ssOf_2 h]; exact after_lay (lev7_ok α) (by omega) (by omega) (fun t j => Tr.get_d7 t j) x _ (fun j => (Tr.get_d7 t j).symm)
  · rename_i t; show After k x _ ((ssOf α k).p7 x t id); rw [ssOf_3 h]; exact after_lay (lev7_ok α) (by omega) (by omega) (fun t j => Tr.get_d7 t j) x _ (fun j => (Tr.get_d7 t j).symm)
  · rename_i t; show After k x _ ((ssOf α k).p7 x t id); rw [ssOf_4 h]; exact after_lay (lev7_ok α) (by omega) (by omega) (fun t j => Tr.get_d7 t j) x _ (fun j => (Tr.get_d7 t j).symm)
  · rename_i t; show After k x _ ((ssOf α k).p7 x t id); rw [ssOf_5 h]; exact after_lay (lev7_ok α) (by omega) (by omega) (fun t j => Tr.get_d7 t j) x _ (fun j => (Tr.get_d7 t j).symm)
  · rename_i t; show After k x _ ((ssOf α k).p7 x t id); rw [ssOf_6 h]; exact after_lay (lev7_ok α) (by omega) (by omega) (fun t j => Tr.get_d7 t j) x _ (fun j => (Tr.get_d7 t j).symm)
  · rename_i t; show After k x _ ((ssOf α k).p7 x t id); rw [ssOf_7 h]; exact after_lay (lev7_ok α) (by omega) (by omega) (fun t j => Tr.get_d7 t j) x _ (fun j => (Tr.get_d7 t j).symm)
  · rename_i t; show After k x _ ((ssOf α k).p7 x t id); rw [ssOf_8 h]; exact after_not h x fun _ => rfl
theorem Tr.get_big (t : Tr α) {k : Nat} (h : ¬ k < 2097152) : t.get k = none := by
  cases t with
  | e => rfl
  | d1 t => rw [Tr.get_d1, gLev_eq, if_neg (by omega)]
  | d2 t => rw [Tr.get_d2, gLev_eq, if_neg (by omega)]
  | d3 t => rw [Tr.get_d3, gLev_eq, if_neg (by omega)]
  | d4 t => rw [Tr.get_d4, gLev_eq, if_neg (by omega)]
  | d5 t => rw [Tr.get_d5, gLev_eq, if_neg (by omega)]
  | d6 t => rw [Tr.get_d6, gLev_eq, if_neg (by omega)]
  | d7 t => rw [Tr.get_d7, gLev_eq, if_neg (by omega)]
theorem Tr.get_set {t : Tr α} {k : Nat} {v : Option α} {j : Nat} {x : α} (h : (t.set k v).get j = some x) : (j = k ∧ v = some x) ∨ (j ≠ k ∧ t.get j = some x) := by
  rw [Tr.after t k v j] at h
  split at h
  · rename_i e; exact .inl ⟨e.1, h⟩
  · rename_i e
    refine .inr ⟨fun e' => ?_, h⟩
    rw [Tr.get_big t (fun q => e ⟨e', by omega⟩)] at h
    cases h
theorem Tr.get_put_ne {t : Tr α} {k : Nat} {v : α} {j : Nat} (_ : k ≤ 1000000000) (h : j ≠ k) : (t.put k v).get j = t.get j := by
  show (t.set k (some v)).get j = _
  rw [Tr.after, if_neg (fun q => h q.1)]
theorem Tr.get_put_self {t : Tr α} {k : Nat} {v : α} (h : k < 2097152) : (t.put k v).get k = some v := by
  show (t.set k (some v)).get k = _
  rw [Tr.after, if_pos ⟨rfl, h⟩]
theorem Tr.get_put {t : Tr α} {k : Nat} {v : α} {j : Nat} {x : α} (h : (t.put k v).get j = some x) : (j = k ∧ v = x) ∨ (j ≠ k ∧ t.get j = some x) :=
  (Tr.get_set h).imp (fun ⟨a, b⟩ => ⟨a, Option.some.inj b⟩) id
theorem Tr.get_del {t : Tr α} {k : Nat} {j : Nat} {x : α} (h : (t.del k).get j = some x) : j ≠ k ∧ t.get j = some x := by
  rcases Tr.get_set h with ⟨_, b⟩ | h
  · cases b
  · exact h
theorem Tr.get_del_ne {t : Tr α} {k : Nat} {j : Nat} (h : j ≠ k) : (t.del k).get j = t.get j := by
  show (t.set k none).get j = _
  rw [Tr.after, if_neg (fun q => h q.1)]

/-- What is handed on is looked at first: it is handed on as it is. -/
def kT {β : Type} (t : Tr α) (k : Tr α → β) : β := Tr.rec (motive := fun _ => β) (k .e) (fun t => k (.d1 t)) (fun t => k (.d2 t)) (fun t => k (.d3 t)) (fun t => k (.d4 t)) (fun t => k (.d5 t)) (fun t => k (.d6 t)) (fun t => k (.d7 t)) t
/-- 'put', handed on. -/
def Tr.putK {γ : Type} (t : Tr α) (k : Nat) (v : α) (k' : Tr α → γ) : γ := t.setK k (some v) k'
@[simp] theorem Tr.putK_eq {γ : Type} (t : Tr α) (k : Nat) (v : α) (k' : Tr α → γ) : t.putK k v k' = k' (t.put k v) := Tr.setK_eq t k (some v) k'
@[simp] theorem kT_eq {β : Type} (t : Tr α) (k : Tr α → β) : kT t k = k t := by cases t <;> rfl

/- Are two one? -/
def N8.same {β : Type} (s : β → β → Bool) (x y : N8 β) : Bool := N8.rec (motive := fun _ => N8 β → Bool) (fun a b c d e f g h y => N8.rec (motive := fun _ => Bool) (fun a' b' c' d' e' f' g' h' => s a a' && (s b b' && (s c c' && (s d d' && (s e e' && (s f f' && (s g g' && s h h'))))))) y) x y
theorem N8.same_eq {β : Type} {s : β → β → Bool} (hs : ∀ a b, s a b = true → a = b) {x y : N8 β} (h : x.same s y = true) : x = y := by
  cases x; cases y
  simp only [N8.same, Bool.and_eq_true] at h
  obtain ⟨h1, h2, h3, h4, h5, h6, h7, h8⟩ := h
  rw [hs _ _ h1, hs _ _ h2, hs _ _ h3, hs _ _ h4, hs _ _ h5, hs _ _ h6, hs _ _ h7, hs _ _ h8]
def Tr.sameBy (s : Option α → Option α → Bool) : Tr α → Tr α → Bool
  | .e, .e => true
  | .d1 x, .d1 y => x.same s y
  | .d2 x, .d2 y => x.same (fun a b => a.same s b) y
  | .d3 x, .d3 y => x.same (fun a b => a.same (fun a b => a.same s b) b) y
  | _, _ => false
theorem Tr.sameBy_eq {s : Option α → Option α → Bool} (hs : ∀ a b, s a b = true → a = b) : ∀ {x y : Tr α}, Tr.sameBy s x y = true → x = y := by
  intro x y h
  unfold Tr.sameBy at h
  split at h
  · rfl
  · rw [N8.same_eq hs h]
  · rw [N8.same_eq (fun a b => N8.same_eq hs) h]
  · rw [N8.same_eq (fun a b => N8.same_eq (fun a b => N8.same_eq hs)) h]
  · cases h
end
end
end Go.Am
