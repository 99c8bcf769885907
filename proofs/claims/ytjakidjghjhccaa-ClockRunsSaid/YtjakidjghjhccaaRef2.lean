/-
  The document's clocks over the same description; the two beside each other.
-/
import Derived.Test.YtjakidjghjhccaaRef
namespace Go.Proofs.Ytjakidjghjhccaa
open Go.RowKit

/-- All but three blocks is as it was. -/
structure Oth3 (r ob tb : Nat) (w w' : World) : Prop where
  os : w'.os = w.os
  tape : w'.tape = w.tape
  out : w'.output = w.output
  size : w'.heap.size = w.heap.size
  blk : ∀ k, k ≠ r → k ≠ ob → k ≠ tb → w'.heap[k]? = w.heap[k]?
  fz : ∀ a, w'.frozen? a = w.frozen? a
theorem Oth3.refl (r ob tb : Nat) (w : World) : Oth3 r ob tb w w := ⟨rfl, rfl, rfl, rfl, fun _ _ _ _ => rfl, fun _ => rfl⟩
theorem Oth3.setCell {r ob tb : Nat} {w v : World} (h : Oth3 r ob tb w v) {b : Nat} (hb : b = r ∨ b = ob ∨ b = tb) (i : Nat) (x : Value) : Oth3 r ob tb w (v.setCell ⟨b, i, none⟩ x) :=
  ⟨h.os, h.tape, h.out, by simpa [World.setCell] using h.size, fun k h1 h2 h3 => (Below.heap_setCell v ⟨b, i, none⟩ x k (by show k ≠ b; rcases hb with rfl | rfl | rfl <;> assumption)).trans (h.blk k h1 h2 h3), fun a => (by simp : (v.setCell ⟨b, i, none⟩ x).frozen? a = v.frozen? a).trans (h.fz a)⟩
theorem Oth3.drewN {r ob tb : Nat} {w v : World} (h : Oth3 r ob tb w v) (n : Nat) : Oth3 r ob tb w (v.drewN n) := ⟨h.os, h.tape, h.out, h.size, h.blk, h.fz⟩
theorem Oth3.cell {r ob tb : Nat} {w v : World} (h : Oth3 r ob tb w v) {a : Addr} (h1 : a.block ≠ r) (h2 : a.block ≠ ob) (h3 : a.block ≠ tb) : v.cell? a = w.cell? a := World.cell?_of_block (h.blk _ h1 h2 h3)
theorem Oth3.below {r ob tb B : Nat} {w0 w v : World} (h : Oth3 r ob tb w v) (g : Below B w0 w) (h1 : B ≤ r) (h2 : B ≤ ob) (h3 : B ≤ tb) : Below B w0 v :=
  ⟨h.os.trans g.os, h.tape.trans g.tape, h.out.trans g.output, by have := g.size; have := h.size; omega, fun k hk => (h.blk k (by omega) (by omega) (by omega)).trans (g.block k hk)⟩
theorem CK.oth3 {w v : World} {b r ob tb : Nat} {c : Cl} (h : CK w b c) (g : Oth3 r ob tb w v) (h1 : b ≠ r) (h2 : b ≠ ob) (h3 : b ≠ tb) : CK v b c :=
  ⟨(g.cell h1 h2 h3).trans h.n, (g.cell h1 h2 h3).trans h.t, (g.cell h1 h2 h3).trans h.wd, fun k hk => (g.cell h1 h2 h3).trans (h.o k hk), fun k hk => (g.cell h1 h2 h3).trans (h.l k hk), fun i => (g.fz _).trans (h.f i)⟩
theorem RK.oth {w v : World} {b r ob tb N : Nat} {c : Cl} (h : RK w r ob tb N c) (g : Oth b w v) (h1 : r ≠ b) (h2 : ob ≠ b) (h3 : tb ≠ b) : RK v r ob tb N c :=
  ⟨h.n, (g.cell h1).trans h.t, (g.cell h1).trans h.so, (g.cell h1).trans h.sl, (g.cell h1).trans h.ev, fun k hk => (g.cell h2).trans (h.o k hk), fun k hk => (g.cell h3).trans (h.l k hk), fun i => (g.fz _).trans (h.fr i), fun i => (g.fz _).trans (h.fo i), fun i => (g.fz _).trans (h.fl i), h.n1, h.n2, h.n3⟩
theorem RK.alloc {w : World} {r ob tb N : Nat} {c : Cl} (h : RK w r ob tb N c) (o : Obj) (h1 : r < w.heap.size) (h2 : ob < w.heap.size) (h3 : tb < w.heap.size) : RK (w.alloc o) r ob tb N c :=
  ⟨h.n, (World.cell?_alloc_past o r 0 h1).trans h.t, (World.cell?_alloc_past o r 1 h1).trans h.so, (World.cell?_alloc_past o r 2 h1).trans h.sl, (World.cell?_alloc_past o r 3 h1).trans h.ev,
   fun k hk => (World.cell?_alloc_past o ob k h2).trans (h.o k hk), fun k hk => (World.cell?_alloc_past o tb k h3).trans (h.l k hk), fun i => (World.frozen?_alloc_past o r i h1).trans (h.fr i), fun i => (World.frozen?_alloc_past o ob i h2).trans (h.fo i), fun i => (World.frozen?_alloc_past o tb i h3).trans (h.fl i), h.n1, h.n2, h.n3⟩
theorem RK.drewN {w : World} {r ob tb N : Nat} {c : Cl} (h : RK w r ob tb N c) (n : Nat) : RK (w.drewN n) r ob tb N c := ⟨h.n, h.t, h.so, h.sl, h.ev, h.o, h.l, h.fr, h.fo, h.fl, h.n1, h.n2, h.n3⟩

theorem cell_nb {w : World} {b b' i j : Nat} {x : Value} (h : b ≠ b') : (w.setCell ⟨b, i, none⟩ x).cell? ⟨b', j, none⟩ = w.cell? ⟨b', j, none⟩ :=
  World.cell?_setCell_other w ⟨b, i, none⟩ ⟨b', j, none⟩ x (fun e => h (congrArg Addr.block e))
theorem RK.tick {w : World} {r ob tb N : Nat} {c : Cl} (h : RK w r ob tb N c) (n : Int) : RK (w.setCell ⟨r, 0, none⟩ (.int .i64 (c.T + n))) r ob tb N (c.tick n) :=
  ⟨h.n, World.cell?_setCell_same w ⟨r, 0, none⟩ _ h.t, (cell_ne (by omega)).trans h.so, (cell_ne (by omega)).trans h.sl, (cell_ne (by omega)).trans h.ev, fun k hk => (cell_nb (Ne.symm h.n1)).trans (h.o k hk), fun k hk => (cell_nb (Ne.symm h.n2)).trans (h.l k hk),
   fun i => (by simp [h.fr i]), fun i => (by simp [h.fo i]), fun i => (by simp [h.fl i]), h.n1, h.n2, h.n3⟩
theorem RK.now {w : World} {r ob tb N : Nat} {c : Cl} (h : RK w r ob tb N c) {k : Nat} : RK (w.setCell ⟨tb, k, none⟩ (.int .i64 (c.tell k))) r ob tb N (c.now k) := by
  refine ⟨h.n, (cell_nb h.n2).trans h.t, (cell_nb h.n2).trans h.so, (cell_nb h.n2).trans h.sl, (cell_nb h.n2).trans h.ev, fun j hj => (cell_nb (Ne.symm h.n3)).trans (h.o j hj), fun j hj => ?_, fun i => (by simp [h.fr i]), fun i => (by simp [h.fo i]), fun i => (by simp [h.fl i]), h.n1, h.n2, h.n3⟩
  by_cases e : j = k
  · subst e
    rw [World.cell?_setCell_same w ⟨tb, j, none⟩ _ (h.l j hj)]
    simp [Cl.now]
  · rw [cell_ne (by omega), h.l j hj]
    simp [Cl.now, e]
theorem RK.setO {w : World} {r ob tb N : Nat} {c : Cl} (h : RK w r ob tb N c) {k : Nat} (o : Int) : ∀ j, j < N → (w.setCell ⟨ob, k, none⟩ (.int .i64 o)).cell? ⟨ob, j, none⟩ = some (.int .i64 ((c.set k o).off j)) := fun j hj => by
  by_cases e : j = k
  · subst e
    rw [World.cell?_setCell_same w ⟨ob, j, none⟩ _ (h.o j hj)]
    simp [Cl.set]
  · rw [cell_ne (by omega), h.o j hj]
    simp [Cl.set, e]
theorem RK.setNear {w : World} {r ob tb N : Nat} {c : Cl} (h : RK w r ob tb N c) {k : Nat} {o : Int} (h0 : -10 ≤ o) (h1 : o ≤ 10) : RK (w.setCell ⟨ob, k, none⟩ (.int .i64 o)) r ob tb N (c.set k o) := by
  have d1 : decide (10 < o) = false := by simpa using h1
  have d2 : decide (o < -10) = false := by simpa using h0
  refine ⟨h.n, (cell_nb h.n1).trans h.t, (cell_nb h.n1).trans h.so, (cell_nb h.n1).trans h.sl, (cell_nb h.n1).trans ?_, h.setO o, fun j hj => (cell_nb h.n3).trans (h.l j hj), fun i => (by simp [h.fr i]), fun i => (by simp [h.fo i]), fun i => (by simp [h.fl i]), h.n1, h.n2, h.n3⟩
  rw [h.ev]
  simp only [Cl.set, d1, d2, Bool.or_false]
theorem RK.setFar {w : World} {r ob tb N : Nat} {c : Cl} (h : RK w r ob tb N c) {k : Nat} {o : Int} (ho : 10 < o ∨ o < -10) : RK ((w.setCell ⟨ob, k, none⟩ (.int .i64 o)).setCell ⟨r, 3, none⟩ (.bool false)) r ob tb N (c.set k o) := by
  have d : (decide (10 < o) || decide (o < -10)) = true := by simpa using ho
  have g3 : (w.setCell ⟨ob, k, none⟩ (.int .i64 o)).cell? ⟨r, 3, none⟩ = some (.bool (!c.wild)) := (cell_nb h.n1).trans h.ev
  refine ⟨h.n, (cell_ne (by omega)).trans ((cell_nb h.n1).trans h.t), (cell_ne (by omega)).trans ((cell_nb h.n1).trans h.so), (cell_ne (by omega)).trans ((cell_nb h.n1).trans h.sl), ?_, fun j hj => (cell_nb (Ne.symm h.n1)).trans (h.setO o j hj), fun j hj => (cell_nb (Ne.symm h.n2)).trans ((cell_nb h.n3).trans (h.l j hj)), fun i => (by simp [h.fr i]), fun i => (by simp [h.fo i]), fun i => (by simp [h.fl i]), h.n1, h.n2, h.n3⟩
  rw [World.cell?_setCell_same _ ⟨r, 3, none⟩ _ g3]
  simp only [Cl.set, d, Bool.or_true, Bool.not_true]

def Did3 (r ob tb N : Nat) (w : World) (n : Int) (c : Cl) (e : Ending) (w' : World) : Prop := e = .returned (.int .i64 n) ∧ RK w' r ob tb N c ∧ Oth3 r ob tb w w'
theorem Did3.same {r ob tb N : Nat} {w w' : World} {n : Int} {c : Cl} {e : Ending} (h : RK w r ob tb N c) : e = .returned (.int .i64 n) ∧ w = w' → Did3 r ob tb N w n c e w' := by
  rintro ⟨rfl, rfl⟩
  exact ⟨rfl, h, Oth3.refl _ _ _ _⟩
theorem ref_tick_did {w : World} {r ob tb N : Nat} {c : Cl} (h : RK w r ob tb N c) (hk : c.OK) (n : Int) :
    Calls Try.prog 11 #[.pointer (some ⟨r, 0, none⟩), .int .i64 n] w (Did3 r ob tb N w (c.tickE n) (c.tickC n)) := by
  unfold Cl.tickE Cl.tickC
  have t1 := hk.t1
  have t2 := hk.t2
  split
  · rename_i hn
    exact (ref_tick_no r c.T n w t1 (by omega) h.t hn).mono fun e w' => Did3.same h
  · exact (ref_tick_yes r c.T n w t1 (by omega) h.t (h.fr _) (by omega) (by omega) (by omega)).mono fun e w' ⟨he, hw⟩ => by
      subst hw
      exact ⟨he, h.tick n, (Oth3.refl _ _ _ _).setCell (.inl rfl) _ _⟩
theorem ref_set_did {w : World} {r ob tb N : Nat} {c : Cl} (h : RK w r ob tb N c) (hk : c.OK) (i o : Int) :
    Calls Try.prog 13 #[.pointer (some ⟨r, 0, none⟩), .int .i64 i, .int .i64 o] w (Did3 r ob tb N w (c.setE i o) (c.setC i o)) := by
  unfold Cl.setE Cl.setC
  have n2 := hk.n2
  have hn := h.n
  split
  · rename_i hi
    exact (ref_set_20 r _ N i o w (by omega) h.so).mono fun e w' => Did3.same h
  · split
    · rename_i hi ho
      exact (ref_set_1 r _ N i o w (by omega) (by omega) ho h.so).mono fun e w' => Did3.same h
    · rename_i hi ho
      obtain ⟨k, rfl⟩ : ∃ k : Nat, i = k := ⟨i.toNat, by omega⟩
      by_cases hf : 10 < o ∨ o < -10
      · exact (ref_set_far r ob k N o _ _ w (by omega) (by omega) (by omega) (by omega) hf h.n1 h.so h.ev (h.fr _) (h.o k (by omega)) (h.fo _)).mono fun e w' ⟨he, hw⟩ => by
          subst hw
          exact ⟨he, h.setFar hf, ((Oth3.refl _ _ _ _).setCell (.inr (.inl rfl)) _ _).setCell (.inl rfl) _ _⟩
      · exact (ref_set_near r ob k N o _ w (by omega) (by omega) (by omega) (by omega) h.so (h.o k (by omega)) (h.fo _)).mono fun e w' ⟨he, hw⟩ => by
          subst hw
          exact ⟨he, h.setNear (by omega) (by omega), (Oth3.refl _ _ _ _).setCell (.inr (.inl rfl)) _ _⟩
theorem ref_now_did {w : World} {r ob tb N : Nat} {c : Cl} (h : RK w r ob tb N c) (hk : c.OK) (i : Int) :
    Calls Try.prog 15 #[.pointer (some ⟨r, 0, none⟩), .int .i64 i] w (Did3 r ob tb N w (c.nowE i) (c.nowC i)) := by
  unfold Cl.nowE Cl.nowC
  have n2 := hk.n2
  have hn := h.n
  split
  · rename_i hi
    exact (ref_now_no r _ N i w (by omega) h.so).mono fun e w' => Did3.same h
  · obtain ⟨k, rfl⟩ : ∃ k : Nat, i = k := ⟨i.toNat, by omega⟩
    have e : min (max 1 (max (c.told k) (c.T + c.off k))) 1099511627775 = c.tell k := by simp only [Cl.tell]; omega
    exact (ref_now_yes r ob tb k N c.T (c.off k) (c.told k) w (by omega) (by omega) hk.t1 (by have := hk.t2; omega) (hk.o1 k) (hk.o2 k) (hk.l1 k) (hk.l2 k) h.n2 h.t h.so h.sl (h.o k (by omega)) (h.l k (by omega)) (h.fl _)).mono fun e' w' ⟨he, n, hw⟩ => by
      rw [e] at he hw
      subst hw
      exact ⟨he, h.now.drewN n, ((Oth3.refl _ _ _ _).setCell (.inr (.inr rfl)) _ _).drewN n⟩
end Go.Proofs.Ytjakidjghjhccaa
