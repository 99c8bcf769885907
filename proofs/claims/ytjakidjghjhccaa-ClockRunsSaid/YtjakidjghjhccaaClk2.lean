/-
  The clocks' methods over one description of the block, and what a round may assume of them.
-/
import Derived.Test.YtjakidjghjhccaaClk
import Derived.Below
namespace Go.Proofs.Ytjakidjghjhccaa
open Go.RowKit

/-- Clocks. -/
structure Cl where
  N : Int
  T : Int
  wild : Bool
  off : Nat → Int
  told : Nat → Int
def Cl.tick (c : Cl) (n : Int) : Cl := { c with T := c.T + n }
def Cl.set (c : Cl) (k : Nat) (o : Int) : Cl := { c with off := fun j => if j = k then o else c.off j, wild := c.wild || (decide (10 < o) || decide (o < -10)) }
def Cl.tell (c : Cl) (k : Nat) : Int := min (max 1 (max (c.T + c.off k) (c.told k))) 1099511627775
def Cl.now (c : Cl) (k : Nat) : Cl := { c with told := fun j => if j = k then c.tell k else c.told j }
def Cl.new (n : Int) : Cl := { N := n, T := 1000, wild := false, off := fun _ => 0, told := fun _ => 0 }
structure Cl.OK (c : Cl) : Prop where
  n1 : 1 ≤ c.N
  n2 : c.N ≤ 16
  t1 : 1000 ≤ c.T
  t2 : c.T ≤ 1099511627775
  o1 : ∀ k, -100000 ≤ c.off k
  o2 : ∀ k, c.off k ≤ 100000
  l1 : ∀ k, 0 ≤ c.told k
  l2 : ∀ k, c.told k ≤ 1099511627775
theorem Cl.OK.new {n : Int} (h0 : 1 ≤ n) (h1 : n ≤ 16) : (Cl.new n).OK := by
  constructor <;> intros <;> simp [Cl.new] <;> omega
theorem Cl.OK.tick {c : Cl} (h : c.OK) {n : Int} (h0 : 0 ≤ n) (h1 : n < 1099511627776 - c.T) : (c.tick n).OK :=
  ⟨h.n1, h.n2, by have := h.t1; simp [Cl.tick]; omega, by have := h.t1; simp [Cl.tick]; omega, h.o1, h.o2, h.l1, h.l2⟩
theorem Cl.OK.set {c : Cl} (h : c.OK) {k : Nat} {o : Int} (h0 : -100000 ≤ o) (h1 : o ≤ 100000) : (c.set k o).OK := by
  refine ⟨h.n1, h.n2, h.t1, h.t2, fun j => ?_, fun j => ?_, h.l1, h.l2⟩
  · have := h.o1 j; simp only [Cl.set]; split <;> omega
  · have := h.o2 j; simp only [Cl.set]; split <;> omega
theorem Cl.tell1 (c : Cl) (k : Nat) : 1 ≤ c.tell k := by simp only [Cl.tell]; omega
theorem Cl.tell2 (c : Cl) (k : Nat) : c.tell k ≤ 1099511627775 := by simp only [Cl.tell]; omega
theorem Cl.OK.now {c : Cl} (h : c.OK) {k : Nat} : (c.now k).OK := by
  refine ⟨h.n1, h.n2, h.t1, h.t2, h.o1, h.o2, fun j => ?_, fun j => ?_⟩
  · have := h.l1 j; have := c.tell1 k; simp only [Cl.now]; split <;> omega
  · have := h.l2 j; have := c.tell2 k; simp only [Cl.now]; split <;> omega

/-- A block holds clocks. -/
structure CK (w : World) (b : Nat) (c : Cl) : Prop where
  n : w.cell? ⟨b, 0, none⟩ = some (.int .i64 c.N)
  t : w.cell? ⟨b, 1, none⟩ = some (.int .i64 c.T)
  wd : w.cell? ⟨b, 2, none⟩ = some (.bool c.wild)
  o : ∀ k, k < 16 → w.cell? ⟨b, 3 + k * 2, none⟩ = some (.int .i64 (c.off k))
  l : ∀ k, k < 16 → w.cell? ⟨b, 3 + k * 2 + 1, none⟩ = some (.int .i64 (c.told k))
  f : ∀ i, w.frozen? ⟨b, i, none⟩ = false
/-- All but one block is as it was. -/
structure Oth (b : Nat) (w w' : World) : Prop where
  os : w'.os = w.os
  tape : w'.tape = w.tape
  out : w'.output = w.output
  size : w'.heap.size = w.heap.size
  blk : ∀ k, k ≠ b → w'.heap[k]? = w.heap[k]?
  fz : ∀ a, w'.frozen? a = w.frozen? a
theorem Oth.refl (b : Nat) (w : World) : Oth b w w := ⟨rfl, rfl, rfl, rfl, fun _ _ => rfl, fun _ => rfl⟩
theorem Oth.trans {b : Nat} {w v u : World} (h : Oth b w v) (g : Oth b v u) : Oth b w u :=
  ⟨g.os.trans h.os, g.tape.trans h.tape, g.out.trans h.out, g.size.trans h.size, fun k hk => (g.blk k hk).trans (h.blk k hk), fun a => (g.fz a).trans (h.fz a)⟩
theorem Oth.setCell {b : Nat} {w v : World} (h : Oth b w v) (i : Nat) (x : Value) : Oth b w (v.setCell ⟨b, i, none⟩ x) :=
  ⟨h.os, h.tape, h.out, by simpa [World.setCell] using h.size, fun k hk => (Below.heap_setCell v ⟨b, i, none⟩ x k hk).trans (h.blk k hk), fun a => (by simp : (v.setCell ⟨b, i, none⟩ x).frozen? a = v.frozen? a).trans (h.fz a)⟩
theorem Oth.drewN {b : Nat} {w v : World} (h : Oth b w v) (n : Nat) : Oth b w (v.drewN n) := ⟨h.os, h.tape, h.out, h.size, h.blk, h.fz⟩
theorem Oth.cell {b : Nat} {w v : World} (h : Oth b w v) {a : Addr} (ha : a.block ≠ b) : v.cell? a = w.cell? a := World.cell?_of_block (h.blk _ ha)
theorem Oth.below {b B : Nat} {w0 w v : World} (h : Oth b w v) (g : Below B w0 w) (hb : B ≤ b) : Below B w0 v :=
  ⟨h.os.trans g.os, h.tape.trans g.tape, h.out.trans g.output, by have := g.size; have := h.size; omega, fun k hk => (h.blk k (by omega)).trans (g.block k hk)⟩

theorem cell_ne {w : World} {b i j : Nat} {x : Value} (h : i ≠ j) : (w.setCell ⟨b, i, none⟩ x).cell? ⟨b, j, none⟩ = w.cell? ⟨b, j, none⟩ :=
  World.cell?_setCell_other w ⟨b, i, none⟩ ⟨b, j, none⟩ x (fun e => h (congrArg Addr.off e))
theorem CK.tick {w : World} {b : Nat} {c : Cl} (h : CK w b c) (n : Int) : CK (w.setCell ⟨b, 1, none⟩ (.int .i64 (c.T + n))) b (c.tick n) :=
  ⟨(cell_ne (by omega)).trans h.n, World.cell?_setCell_same w ⟨b, 1, none⟩ _ h.t, (cell_ne (by omega)).trans h.wd, fun k hk => (cell_ne (by omega)).trans (h.o k hk), fun k hk => (cell_ne (by omega)).trans (h.l k hk), fun i => (by simp [h.f i])⟩
theorem CK.now {w : World} {b : Nat} {c : Cl} (h : CK w b c) {k : Nat} (hk : k < 16) : CK (w.setCell ⟨b, 3 + k * 2 + 1, none⟩ (.int .i64 (c.tell k))) b (c.now k) := by
  refine ⟨(cell_ne (by omega)).trans h.n, (cell_ne (by omega)).trans h.t, (cell_ne (by omega)).trans h.wd, fun j hj => (cell_ne (by omega)).trans (h.o j hj), fun j hj => ?_, fun i => (by simp [h.f i])⟩
  by_cases e : j = k
  · subst e
    rw [World.cell?_setCell_same w ⟨b, 3 + j * 2 + 1, none⟩ _ (h.l j hj)]
    simp [Cl.now]
  · rw [cell_ne (by omega), h.l j hj]
    simp [Cl.now, e]
theorem CK.set {w : World} {b : Nat} {c : Cl} (h : CK w b c) {k : Nat} (hk : k < 16) (o : Int) : CK ((w.setCell ⟨b, 3 + k * 2, none⟩ (.int .i64 o)).setCell ⟨b, 2, none⟩ (.bool (c.wild || (decide (10 < o) || decide (o < -10))))) b (c.set k o) := by
  have h2 : (w.setCell ⟨b, 3 + k * 2, none⟩ (.int .i64 o)).cell? ⟨b, 2, none⟩ = some (.bool c.wild) := (cell_ne (by omega)).trans h.wd
  refine ⟨(cell_ne (by omega)).trans ((cell_ne (by omega)).trans h.n), (cell_ne (by omega)).trans ((cell_ne (by omega)).trans h.t), World.cell?_setCell_same _ ⟨b, 2, none⟩ _ h2, fun j hj => ?_, fun j hj => (cell_ne (by omega)).trans ((cell_ne (by omega)).trans (h.l j hj)), fun i => (by simp [h.f i])⟩
  rw [cell_ne (by omega)]
  by_cases e : j = k
  · subst e
    rw [World.cell?_setCell_same w ⟨b, 3 + j * 2, none⟩ _ (h.o j hj)]
    simp [Cl.set]
  · rw [cell_ne (by omega), h.o j hj]
    simp [Cl.set, e]
theorem CK.drewN {w : World} {b : Nat} {c : Cl} (h : CK w b c) (n : Nat) : CK (w.drewN n) b c := ⟨h.n, h.t, h.wd, h.o, h.l, h.f⟩
theorem CK.oth {w v : World} {b b' : Nat} {c : Cl} (h : CK w b c) (g : Oth b' w v) (hb : b ≠ b') : CK v b c :=
  ⟨(g.cell hb).trans h.n, (g.cell hb).trans h.t, (g.cell hb).trans h.wd, fun k hk => (g.cell hb).trans (h.o k hk), fun k hk => (g.cell hb).trans (h.l k hk), fun i => (g.fz _).trans (h.f i)⟩
theorem CK.alloc {w : World} {b : Nat} {c : Cl} (h : CK w b c) (o : Obj) (hb : b < w.heap.size) : CK (w.alloc o) b c :=
  ⟨(World.cell?_alloc_past o b 0 hb).trans h.n, (World.cell?_alloc_past o b 1 hb).trans h.t, (World.cell?_alloc_past o b 2 hb).trans h.wd, fun k hk => (World.cell?_alloc_past o b _ hb).trans (h.o k hk), fun k hk => (World.cell?_alloc_past o b _ hb).trans (h.l k hk), fun i => (World.frozen?_alloc_past o b i hb).trans (h.f i)⟩
theorem CK.new (w : World) (n : Int) : CK (w.alloc (.cells (fresh n) 51)) w.heap.size (Cl.new n) := by
  refine ⟨by simp [fresh, Cl.new], by simp [fresh, Cl.new], by simp [fresh, Cl.new], fun k hk => ?_, fun k hk => ?_, fun i => by simp⟩
  · rw [World.cell?_alloc_new]
    match k, hk with
    | 0, _ | 1, _ | 2, _ | 3, _ | 4, _ | 5, _ | 6, _ | 7, _ | 8, _ | 9, _ | 10, _ | 11, _ | 12, _ | 13, _ | 14, _ | 15, _ => rfl
    | n + 16, h => exact absurd h (by omega)
  · rw [World.cell?_alloc_new]
    match k, hk with
    | 0, _ | 1, _ | 2, _ | 3, _ | 4, _ | 5, _ | 6, _ | 7, _ | 8, _ | 9, _ | 10, _ | 11, _ | 12, _ | 13, _ | 14, _ | 15, _ => rfl
    | n + 16, h => exact absurd h (by omega)

/-- What a call did: it answered n, and of the block b it made clocks c. -/
def Did (b : Nat) (w : World) (n : Int) (c : Cl) (e : Ending) (w' : World) : Prop := e = .returned (.int .i64 n) ∧ CK w' b c ∧ Oth b w w'
theorem Did.same {b : Nat} {w w' : World} {n : Int} {c : Cl} {e : Ending} (h : CK w b c) : e = .returned (.int .i64 n) ∧ w = w' → Did b w n c e w' := by
  rintro ⟨rfl, rfl⟩
  exact ⟨rfl, h, Oth.refl _ _⟩
/-- What Tick says, and does. -/
def Cl.tickE (c : Cl) (n : Int) : Int := if n < 0 ∨ 10000 < n ∨ 1099511627776 - c.T ≤ n then 1 else 0
def Cl.tickC (c : Cl) (n : Int) : Cl := if n < 0 ∨ 10000 < n ∨ 1099511627776 - c.T ≤ n then c else c.tick n
theorem tick_did {w : World} {b : Nat} {c : Cl} (h : CK w b c) (hk : c.OK) (n : Int) :
    Calls Try.prog 10 #[.pointer (some ⟨b, 0, none⟩), .int .i64 n] w (Did b w (c.tickE n) (c.tickC n)) := by
  unfold Cl.tickE Cl.tickC
  have t1 := hk.t1
  have t2 := hk.t2
  split
  · rename_i hn
    exact (tick_no b c.T n w t1 (by omega) h.t hn).mono fun e w' => Did.same h
  · exact (tick_yes b c.T n w t1 (by omega) h.t (h.f _) (by omega) (by omega) (by omega)).mono fun e w' ⟨he, hw⟩ => by
      subst hw
      exact ⟨he, h.tick n, (Oth.refl _ _).setCell _ _⟩
def Cl.setE (c : Cl) (i o : Int) : Int := if i < 0 ∨ c.N ≤ i then 20 else if o < -100000 ∨ 100000 < o then 1 else 0
def Cl.setC (c : Cl) (i o : Int) : Cl := if i < 0 ∨ c.N ≤ i then c else if o < -100000 ∨ 100000 < o then c else c.set i.toNat o
theorem set_did {w : World} {b : Nat} {c : Cl} (h : CK w b c) (hk : c.OK) (i o : Int) :
    Calls Try.prog 12 #[.pointer (some ⟨b, 0, none⟩), .int .i64 i, .int .i64 o] w (Did b w (c.setE i o) (c.setC i o)) := by
  unfold Cl.setE Cl.setC
  have n2 := hk.n2
  split
  · rename_i hi
    exact (set_20 b c.N i o w hi h.n).mono fun e w' => Did.same h
  · split
    · rename_i hi ho
      exact (set_1 b c.N i o w (by omega) (by omega) ho h.n).mono fun e w' => Did.same h
    · rename_i hi ho
      obtain ⟨k, rfl⟩ : ∃ k : Nat, i = k := ⟨i.toNat, by omega⟩
      exact (set_yes b k c.N o _ c.wild w (by omega) n2 (by omega) (by omega) h.n h.wd (h.o k (by omega)) (h.f _) (h.f _)).mono fun e w' ⟨he, hw⟩ => by
        subst hw
        exact ⟨he, h.set (by omega) o, ((Oth.refl _ _).setCell _ _).setCell _ _⟩
def Cl.nowE (c : Cl) (i : Int) : Int := if i < 0 ∨ c.N ≤ i then 0 else c.tell i.toNat
def Cl.nowC (c : Cl) (i : Int) : Cl := if i < 0 ∨ c.N ≤ i then c else c.now i.toNat
theorem now_did {w : World} {b : Nat} {c : Cl} (h : CK w b c) (hk : c.OK) (i : Int) :
    Calls Try.prog 14 #[.pointer (some ⟨b, 0, none⟩), .int .i64 i] w (Did b w (c.nowE i) (c.nowC i)) := by
  unfold Cl.nowE Cl.nowC
  have n2 := hk.n2
  split
  · rename_i hi
    exact (now_no b c.N i w hi h.n).mono fun e w' => Did.same h
  · obtain ⟨k, rfl⟩ : ∃ k : Nat, i = k := ⟨i.toNat, by omega⟩
    exact (now_any b k c.N c.T (c.off k) (c.told k) w (by omega) n2 hk.t1 (by have := hk.t2; omega) (hk.o1 k) (hk.o2 k) (hk.l1 k) (hk.l2 k) h.t h.n (h.o k (by omega)) (h.l k (by omega)) (h.f _)).mono fun e w' ⟨he, n, hw⟩ => by
      subst hw
      exact ⟨he, (h.now (by omega)).drewN n, ((Oth.refl _ _).setCell _ _).drewN n⟩
theorem Cl.OK.tickC {c : Cl} (h : c.OK) (n : Int) : (c.tickC n).OK := by
  unfold Cl.tickC; split
  · exact h
  · exact h.tick (by omega) (by omega)
theorem Cl.OK.setC {c : Cl} (h : c.OK) (i o : Int) : (c.setC i o).OK := by
  unfold Cl.setC; split
  · exact h
  · split
    · exact h
    · exact h.set (by omega) (by omega)
theorem Cl.OK.nowC {c : Cl} (h : c.OK) (i : Int) : (c.nowC i).OK := by
  unfold Cl.nowC; split
  · exact h
  · exact h.now
theorem Cl.tickC_told (c : Cl) (n : Int) : (c.tickC n).told = c.told := by unfold Cl.tickC; split <;> rfl
theorem Cl.tickC_N (c : Cl) (n : Int) : (c.tickC n).N = c.N := by unfold Cl.tickC; split <;> rfl
theorem Cl.setC_told (c : Cl) (i o : Int) : (c.setC i o).told = c.told := by
  unfold Cl.setC
  split
  · rfl
  · split <;> rfl
theorem Cl.setC_N (c : Cl) (i o : Int) : (c.setC i o).N = c.N := by
  unfold Cl.setC
  split
  · rfl
  · split <;> rfl
theorem Cl.nowC_N (c : Cl) (i : Int) : (c.nowC i).N = c.N := by unfold Cl.nowC; split <;> rfl
end Go.Proofs.Ytjakidjghjhccaa
