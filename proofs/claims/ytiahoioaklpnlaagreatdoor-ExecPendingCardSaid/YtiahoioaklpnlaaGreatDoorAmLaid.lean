/-
  A LAW WHOSE ROW LAYS PACKAGE-LEVEL VARIABLES: the machine starts with their cells known.
-/
import Derived.Test.YtiahoioaklpnlaaGreatDoorAmMemo
import Derived.Test.YtiahoioaklpnlaaGreatDoorAmLaw
namespace Go.Am

/-- What is known of package-level variables is so. -/
def GLok (w : World) (l : List (Nat × List AV)) : Prop :=
  ∀ g c, (g, c) ∈ l → ∃ cs e fz, w.heap[g]? = some (.cells cs e fz) ∧ ∀ (i : Nat) (v : AV), c[i]? = some v → ∃ cv, cs[i]? = some cv ∧ VR Inj.nil v cv
theorem glTr_mem : ∀ {l : List (Nat × List AV)} {g : Nat} {x : Tr AV}, (glTr l).get g = some x → ∃ c, (g, c) ∈ l ∧ x = Tr.of c
  | [], g, x, h => by simp [glTr, Tr.get_e] at h
  | (g0, c0) :: l, g, x, h => by
    rcases Tr.get_put h with ⟨e1, e2⟩ | ⟨_, h3⟩
    · exact ⟨c0, by simp [e1], e2.symm⟩
    · obtain ⟨c, h4, h5⟩ := glTr_mem h3
      exact ⟨c, by simp [h4], h5⟩
noncomputable def St.laid (l : List (Nat × List AV)) : St := { h := .e, nx := 0, gl := glTr l, sh := [] }
theorem HR.laid {P : Program} {w : World} {l : List (Nat × List AV)} (h : GLok w l) : HR P Inj.nil (St.laid l) w := by
  refine ⟨fun g x hg => ?_, fun _ _ _ h => (by cases h), fun _ _ h => (by cases h), fun _ _ _ _ h => (by cases h), fun _ _ _ _ _ _ _ h => (by cases h)⟩
  obtain ⟨c, hc, rfl⟩ := glTr_mem hg
  obtain ⟨cs, e, fz, h1, h2⟩ := h g c hc
  exact ⟨fun ⟨b, d, ab, h, _⟩ => (by cases h), cs, e, fz, h1, fun i v hi => h2 i v (Tr.get_of hi)⟩
theorem glok_of_cells {w : World} {g : Nat} {c : List AV} {l : List (Nat × List AV)} (h0 : c ≠ []) (h : ∀ (i : Nat) (v : AV), c[i]? = some v → ∃ cv, w.cell? ⟨g, i, none⟩ = some cv ∧ VR Inj.nil v cv) (hl : GLok w l) : GLok w ((g, c) :: l) := by
  intro g' c' hm
  rcases List.mem_cons.mp hm with e | e
  · obtain ⟨rfl, rfl⟩ : g' = g ∧ c' = c := by simpa using e
    match c', h0 with
    | a :: r, _ =>
      obtain ⟨cv, h1, _⟩ := h 0 a rfl
      have key : ∀ {i : Nat} {x : Value}, w.cell? ⟨g', i, none⟩ = some x → ∃ cs e fz, w.heap[g']? = some (.cells cs e fz) ∧ cs[i]? = some x := fun {i x} hx => by
        unfold World.cell? at hx
        cases ho : w.heap[g']? with
        | none => simp [ho] at hx
        | some o =>
          cases o with
          | cells cs e fz => exact ⟨cs, e, fz, rfl, by simpa [ho] using hx⟩
          | _ => simp [ho] at hx
      obtain ⟨cs, e, fz, h3, _⟩ := key h1
      refine ⟨cs, e, fz, h3, fun i v hi => ?_⟩
      obtain ⟨cv', k1, k2⟩ := h i v hi
      obtain ⟨cs', e', fz', k3, k4⟩ := key k1
      rw [h3] at k3
      cases k3
      exact ⟨cv', k4, k2⟩
  · exact hl g' c' e
theorem glok_nil (w : World) : GLok w [] := fun _ _ h => by cases h

theorem calls_laid {P : Program} {X : Ctx} (hX : CtxOK P X) (hF : ∀ f fn, X.fns.get f = some fn → fnOK fn = true) {own : OwnF} (ho : OwnOK P own) {n : Nat} {f : FuncId} {args : List AV} {l : List (Nat × List AV)}
    (h : Go.Am.isTrue (evCall X own n f args (St.laid l)) = true) {w : World} (hl : GLok w l) {cargs : Array Value} (hv : VRs Inj.nil args cargs.toList) :
    Calls P f cargs w fun e w' => e = .returned (.bool true) ∧ Grew w w' := by
  unfold isTrue at h
  split at h
  · rename_i s' he
    have hno : ∀ cb, ¬ Own Inj.nil (St.laid l) cb := fun cb ⟨b, d, ab, h, _⟩ => by cases h
    obtain ⟨_, h2⟩ := evCall_sound hX hF ho n he hv (HR.laid hl)
    refine Calls.mono (calls_of_FE h2) fun e w' hp => ?_
    cases e with
    | returned cv =>
      obtain ⟨v', s'', e, κ, g1, g2, g3⟩ := hp
      cases e
      exact ⟨by rw [g1.bool], g3.kin, g3.size, fun cb hcb => (g3.keep cb hcb (hno cb)).1⟩
    | panicked c => obtain ⟨v', s'', e, _⟩ := hp; cases e
    | outgrown => exact hp.elim
  · cases h
end Go.Am
