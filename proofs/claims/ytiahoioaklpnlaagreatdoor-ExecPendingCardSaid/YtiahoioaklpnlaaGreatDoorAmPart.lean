/-
  A CALL THAT WAS RUN ONCE, in a state of the blocks alone that it may reach: where it is met again with these blocks as they were, its answer and its effect are taken over.
-/
import Derived.Test.YtiahoioaklpnlaaGreatDoorAmMemo
namespace Go.Am

structure Part where
  args : List AV
  nx0 : Nat
  sh0 : List Nat
  st : List (Nat × AB)
  v : AV
  nx1 : Nat
  sh1 : List Nat
  fin : List (Nat × AB)
  gl : List (Nat × List AV)
noncomputable def putAll : List (Nat × AB) → Tr AB → Tr AB
  | [], t => t
  | (b, x) :: l, t => putAll l (t.put b x)
noncomputable def Part.st0 (p : Part) : St := { h := putAll p.st .e, nx := p.nx0, gl := glTr p.gl, sh := p.sh0 }
def eqEs : List (AV × AV) → List (AV × AV) → Bool
  | [], [] => true
  | (a, b) :: l, (c, d) :: m => AV.eqb a c && AV.eqb b d && eqEs l m
  | _, _ => false
/-- Are two blocks one? -/
noncomputable def eqAB : AB → AB → Bool
  | .map l, .map m => eqEs l m
  | x, y => sameAB x y
noncomputable def standsAt (s : St) (b : Nat) (x : AB) : Bool := match s.h.get b with
  | some y => eqAB x y
  | none => false
noncomputable def stand (s : St) : List (Nat × AB) → Bool
  | [] => true
  | (b, x) :: l => standsAt s b x && stand s l
def eqN : List Nat → List Nat → Bool
  | [], [] => true
  | a :: l, b :: m => Nat.beq a b && eqN l m
  | _, _ => false
noncomputable def freeFrom (t : Tr AB) (b : Nat) : Nat → Bool
  | 0 => true
  | n + 1 => (match t.get (b + n) with | none => true | some _ => false) && freeFrom t b n
def keysIn (l : List (Nat × AB)) : List (Nat × AB) → Bool
  | [] => true
  | (b, _) :: m => hasN b (l.map (·.1)) && keysIn l m
noncomputable def Part.ok (p : Part) : Option CR → Bool
  | some (.ret v t) => AV.eqb p.v v && Nat.beq p.nx1 t.nx && eqN p.sh1 t.sh && stand t p.fin && keysIn p.fin p.st && Nat.ble p.nx0 p.nx1
  | _ => false
noncomputable def Part.own (p : Part) : List AV → St → Option CR := fun args s =>
  if AV.eqbs args p.args && Nat.beq s.nx p.nx0 && eqN s.sh p.sh0 && stand s p.st && freeFrom s.h p.nx0 (p.nx1 - p.nx0) && glHas s.gl p.gl then some (.ret p.v { s with h := putAll p.fin s.h, nx := p.nx1, sh := p.sh1 }) else none

theorem eqN_eq : ∀ {l m : List Nat}, eqN l m = true → l = m
  | [], [], _ => rfl
  | a :: l, b :: m, h => by
    simp only [eqN, Bool.and_eq_true, Nat.beq_eq] at h
    rw [h.1, eqN_eq h.2]
  | [], _ :: _, h => by simp [eqN] at h
  | _ :: _, [], h => by simp [eqN] at h
theorem eqEs_eq : ∀ {l m : List (AV × AV)}, eqEs l m = true → l = m
  | [], [], _ => rfl
  | (a, b) :: l, (c, d) :: m, h => by
    simp only [eqEs, Bool.and_eq_true] at h
    rw [AV.eqb_eq h.1.1, AV.eqb_eq h.1.2, eqEs_eq h.2]
  | [], _ :: _, h => by simp [eqEs] at h
  | _ :: _, [], h => by simp [eqEs] at h
theorem eqAB_eq {x y : AB} (h : eqAB x y = true) : x = y := by
  cases x <;> cases y <;> first
    | (simp only [eqAB] at h; rw [eqEs_eq h]; done)
    | exact sameAB_eq h
theorem stand_get {s : St} : ∀ {l : List (Nat × AB)}, stand s l = true → ∀ b x, (b, x) ∈ l → s.h.get b = some x
  | [], _, b, x, h => by cases h
  | (c, y) :: l, h, b, x, hm => by
    simp only [stand, Bool.and_eq_true] at h
    rcases List.mem_cons.mp hm with e | e
    · cases e
      have h1 := h.1
      unfold standsAt at h1
      split at h1
      · rename_i z hz; rw [eqAB_eq h1]; exact hz
      · cases h1
    · exact stand_get h.2 b x e
theorem putAll_get : ∀ {l : List (Nat × AB)} {t : Tr AB} {b : Nat} {x : AB}, (putAll l t).get b = some x → (b, x) ∈ l ∨ ((∀ y, (b, y) ∉ l) ∧ t.get b = some x)
  | [], t, b, x, h => .inr ⟨fun y h => (by cases h), h⟩
  | (c, y) :: l, t, b, x, h => by
    rcases putAll_get (l := l) h with h1 | ⟨h1, h2⟩
    · exact .inl (by simp [h1])
    · rcases Tr.get_put h2 with ⟨rfl, rfl⟩ | ⟨hne, h3⟩
      · exact .inl (by simp)
      · refine .inr ⟨fun z hz => ?_, h3⟩
        rcases List.mem_cons.mp hz with e | e
        · cases e; exact hne rfl
        · exact h1 z e
theorem free_get {t : Tr AB} {b : Nat} : ∀ {n : Nat}, freeFrom t b n = true → ∀ i, i < n → t.get (b + i) = none
  | 0, _, i, hi => by omega
  | n + 1, h, i, hi => by
    simp only [freeFrom, Bool.and_eq_true] at h
    by_cases e : i = n
    · subst e
      have h1 := h.1
      split at h1
      · assumption
      · cases h1
    · exact free_get h.2 i (by omega)
theorem hasN_in {a : Nat} : ∀ {l : List Nat}, hasN a l = true → a ∈ l
  | [], h => by simp [hasN] at h
  | b :: l, h => by
    simp only [hasN] at h
    split at h
    · rename_i e; rw [Nat.eq_of_beq_eq_true e]; simp
    · exact List.mem_cons_of_mem _ (hasN_in h)
theorem keysIn_get {l : List (Nat × AB)} : ∀ {m : List (Nat × AB)}, keysIn l m = true → ∀ b x, (b, x) ∈ m → ∃ y, (b, y) ∈ l
  | [], _, b, x, h => by cases h
  | (c, z) :: m, h, b, x, hm => by
    simp only [keysIn, Bool.and_eq_true] at h
    rcases List.mem_cons.mp hm with e | e
    · cases e
      obtain ⟨⟨b', y⟩, h1, h2⟩ := List.mem_map.mp (hasN_in h.1)
      exact ⟨y, by simp only at h2; rw [← h2]; exact h1⟩
    · exact keysIn_get h.2 b x e

theorem part_own {P : Program} {X : Ctx} (hX : CtxOK P X) (hF : ∀ f fn, X.fns.get f = some fn → fnOK fn = true) {own : OwnF} (ho : OwnOK P own) {n : Nat} {f : FuncId} (p : Part)
    (h : p.ok (evCall X own n f p.args p.st0) = true) : OwnOne P f p.own := by
  intro args s r hr ι w cargs hv hH
  unfold Part.own at hr
  split at hr
  · rename_i hc
    cases hr
    simp only [Bool.and_eq_true, Nat.beq_eq] at hc
    obtain ⟨⟨⟨⟨⟨c1, c2⟩, c3⟩, c4⟩, c5⟩, c6⟩ := hc
    have ea := AV.eqbs_eq c1
    subst ea
    have es := eqN_eq c3
    unfold Part.ok at h
    split at h
    · rename_i v t he
      simp only [Bool.and_eq_true, Nat.beq_eq] at h
      obtain ⟨⟨⟨⟨⟨q1, q2⟩, q3⟩, q4⟩, q5⟩, q6⟩ := h
      have q6 := Nat.ble_eq.mp q6
      have ev := AV.eqb_eq q1
      have et := eqN_eq q3
      have sub : ∀ b x, p.st0.h.get b = some x → s.h.get b = some x ∧ (b, x) ∈ p.st := fun b x hb => by
        rcases putAll_get hb with h1 | ⟨_, h2⟩
        · exact ⟨stand_get c4 b x h1, h1⟩
        · simp [Tr.get_e] at h2
      have hOwn : ∀ cb, Own ι p.st0 cb → Own ι s cb := fun cb ⟨b, d, ab, h1, h2⟩ => ⟨b, d, ab, h1, (sub b ab h2).1⟩
      have hH0 : HR P ι p.st0 w := by
        refine ⟨fun g c hg => ?_, fun b cb d hb hs => hH.base b cb d hb (by rw [es]; exact hs), fun b x hb => by have := hH.dom b x hb; show b < p.nx0; omega, fun b cb d ab hb hg => hH.br b cb d ab hb (sub b ab hg).1, fun b b' cb d d' ab ab' h1 h2 g1 g2 => hH.inj b b' cb d d' ab ab' h1 h2 (sub b ab g1).1 (sub b' ab' g2).1⟩
        obtain ⟨x, hx, hxc⟩ := glHas_get c6 g c hg
        obtain ⟨hno, cs, e, fz, h2, h3⟩ := hH.gl g x hx
        exact ⟨fun ho => hno (hOwn g ho), cs, e, fz, h2, fun i v hi => h3 i v (hxc i v hi)⟩
      obtain ⟨e1, e2⟩ := evCall_sound hX hF ho n he hv hH0
      refine .inl ⟨e1, CallsIn.mono e2 fun e w' hp => ?_⟩
      cases e with
      | panicked c => obtain ⟨v', s'', e, _⟩ := hp; cases e
      | outgrown => exact hp.elim
      | returned cv =>
        obtain ⟨v', t', e, κ, g1, g2, g3⟩ := hp
        cases e
        have live : ∀ b cb d ab, κ b = some (cb, d) → (putAll p.fin s.h).get b = some ab → t.h.get b = some ab ∨ (ι b = some (cb, d) ∧ s.h.get b = some ab ∧ ¬ Own ι p.st0 cb) := by
          intro b cb d ab hb hg
          rcases putAll_get hg with h1 | ⟨h1, h2⟩
          · exact .inl (stand_get q4 b ab h1)
          · refine .inr ?_
            have hlt : b < p.nx0 := by
              rcases Nat.lt_or_ge b p.nx0 with hlt | hge
              · exact hlt
              · exfalso
                have hd := g2.dom b _ hb
                have := free_get c5 (b - p.nx0) (by omega)
                rw [show p.nx0 + (b - p.nx0) = b by omega, h2] at this
                cases this
            have hi : ι b = some (cb, d) := by rw [← g3.old b hlt]; exact hb
            refine ⟨hi, h2, fun ⟨b', d', ab', k1, k2⟩ => ?_⟩
            obtain ⟨k3, k4⟩ := sub b' ab' k2
            have eb := hH.inj b' b cb d' d ab' ab k1 hi k3 h2
            subst eb
            obtain ⟨y, hy⟩ := keysIn_get q5 b' ab' k4
            exact h1 y hy
        have hE : Ext ι s w κ { s with h := putAll p.fin s.h, nx := p.nx1, sh := p.sh1 } w' := by
          refine ⟨g3.le, g3.size, fun cb hcb ho' => ?_, fun b hb => g3.old b (by show b < p.nx0; omega), by show s.nx ≤ p.nx1; omega, g3.kin⟩
          have hk := g3.keep cb hcb fun h => ho' (hOwn cb h)
          refine ⟨hk.1, ?_⟩
          rintro ⟨b, d, ab, hb, hg⟩
          rcases live b cb d ab hb hg with h1 | ⟨h1, h2, _⟩
          · exact hk.2 ⟨b, d, ab, hb, h1⟩
          · exact ho' ⟨b, d, ab, h1, h2⟩
        refine ⟨_, _, rfl, κ, by rw [ev]; exact g1, ⟨hH.gl.ext hE rfl, fun b cb d hb hs => g2.base b cb d hb (by rw [← et]; exact hs), fun b x hb => by have := g2.dom b x hb; show b < p.nx1; omega, fun b cb d ab hb hg => ?_, fun b b' cb d d' ab ab' h1 h2 k1 k2 => ?_⟩, hE⟩
        · rcases live b cb d ab hb hg with h1 | ⟨h1, h2, h3⟩
          · exact g2.br b cb d ab hb h1
          · have hbr := hH.br b cb d ab h1 h2
            exact hbr.frame (g3.keep cb hbr.lt h3).1 g3.le
        · have far : ∀ b d ab b' d' ab', κ b = some (cb, d) → t.h.get b = some ab → ι b' = some (cb, d') → s.h.get b' = some ab' → ¬ Own ι p.st0 cb → False := fun b d ab b' d' ab' x1 x2 x3 x4 x5 =>
            (g3.keep cb (hH.br b' cb d' ab' x3 x4).lt x5).2 ⟨b, d, ab, x1, x2⟩
          rcases live b cb d ab h1 k1 with x | ⟨x1, x2, x3⟩ <;> rcases live b' cb d' ab' h2 k2 with y | ⟨y1, y2, y3⟩
          · exact g2.inj b b' cb d d' ab ab' h1 h2 x y
          · exact (far b d ab b' d' ab' h1 x y1 y2 y3).elim
          · exact (far b' d' ab' b d ab h2 y x1 x2 x3).elim
          · exact hH.inj b b' cb d d' ab ab' x1 y1 x2 y2
    · cases h
  · cases hr
end Go.Am
