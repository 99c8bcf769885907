/-
  A slice of acts, as it lies; awake.
-/
import Derived.Test.YtjakidjghjhccaaClk2
import Derived.Deep.Slices
import Derived.Deep.Fields
import Derived.ChangeSame
namespace Go.Proofs.Ytjakidjghjhccaa
open Go.RowKit Go.ChangeShapes Go.WideShapes Go.Deep
set_option maxRecDepth 100000

/-- A slice of acts, as it lies. -/
structure Acts (w : World) (lb off len : Nat) (A : Nat → Int × Int × Int) : Prop where
  a : ∀ j, j < len → w.cell? ⟨lb, off + j * 3, none⟩ = some (.int .i64 (A j).1)
  i : ∀ j, j < len → w.cell? ⟨lb, off + j * 3 + 1, none⟩ = some (.int .i64 (A j).2.1)
  n : ∀ j, j < len → w.cell? ⟨lb, off + j * 3 + 2, none⟩ = some (.int .i64 (A j).2.2)
  lt : 0 < len → lb < w.heap.size
theorem Acts.below {w v : World} {lb off len : Nat} {A : Nat → Int × Int × Int} (h : Acts w lb off len A) (g : Below w.heap.size w v) : Acts v lb off len A :=
  ⟨fun j hj => (g.cell (p := ⟨lb, _, none⟩) (h.lt (by omega))).trans (h.a j hj), fun j hj => (g.cell (p := ⟨lb, _, none⟩) (h.lt (by omega))).trans (h.i j hj), fun j hj => (g.cell (p := ⟨lb, _, none⟩) (h.lt (by omega))).trans (h.n j hj), fun hl => by have := h.lt hl; have := g.size; omega⟩

def C1 : Cl := (Cl.new 1).setC 0 (-5)
def C2 : Cl := C1.nowC 0
def C3 : Cl := C2.setC 0 (-9)
def C4 : Cl := C3.nowC 0
theorem new_ok : (Cl.new 1).OK := Cl.OK.new (by omega) (by omega)
theorem C1_ok : C1.OK := new_ok.setC _ _
theorem C2_ok : C2.OK := C1_ok.nowC _
theorem C3_ok : C3.OK := C2_ok.setC _ _
theorem C4_ok : C4.OK := C3_ok.nowC _
theorem aw1 {w : World} {b : Nat} (h : CK w b (Cl.new 1)) : Calls Try.prog 12 #[.pointer (some ⟨b, 0, none⟩), .int .i64 0, .int .i64 (-5)] w (Did b w 0 C1) := set_did h new_ok 0 (-5)
theorem aw2 {w : World} {b : Nat} (h : CK w b C1) : Calls Try.prog 14 #[.pointer (some ⟨b, 0, none⟩), .int .i64 0] w (Did b w 995 C2) := now_did h C1_ok 0
theorem aw3 {w : World} {b : Nat} (h : CK w b C2) : Calls Try.prog 12 #[.pointer (some ⟨b, 0, none⟩), .int .i64 0, .int .i64 (-9)] w (Did b w 0 C3) := set_did h C2_ok 0 (-9)
theorem aw4 {w : World} {b : Nat} (h : CK w b C3) : Calls Try.prog 14 #[.pointer (some ⟨b, 0, none⟩), .int .i64 0] w (Did b w 995 C4) := now_did h C3_ok 0
theorem aw5 {w : World} {b : Nat} (h : CK w b C4) : Calls Try.prog 16 #[.pointer (some ⟨b, 0, none⟩)] w fun e w' => e = .returned (.int .i64 1000) ∧ w = w' := true_any b 1000 w h.t
theorem aw6 {w : World} {b : Nat} (h : CK w b C4) : Calls Try.prog 17 #[.pointer (some ⟨b, 0, none⟩)] w fun e w' => e = .returned (.bool true) ∧ w = w' := fair_any b false w h.wd

set_option maxHeartbeats 1000000 in
theorem awake_walk (w : World) : Calls Try.prog 18 #[] w fun e w' => e = .returned (.bool true) ∧ Below w.heap.size w w' := by
  have hk := CK.new w 1
  have b0 : Below w.heap.size w (w.alloc (.cells (fresh 1) 51)) := (Below.refl _ _).alloc (Nat.le_refl _) _
  have HB := Lib.hid b0
  clear b0
  go_enter Try.func18, Try.ntmps18
  go_wp2_with (first
    | (go_at_call 7; refine (new_yes 1 _ (by omega) (by omega)).mono ?_; rintro e w' ⟨rfl, rfl⟩)
    | (go_at_call 9; refine (num_any _ _).mono ?_; rintro e w' ⟨rfl, rfl⟩)
    | (go_at_call 12; (with_reducible refine (aw1 hk).mono ?_); rintro e w1 ⟨rfl, hk1, ho1⟩)
    | (go_at_call 14; (with_reducible refine (aw2 hk1).mono ?_); rintro e w2 ⟨rfl, hk2, ho2⟩)
    | (go_at_call 12; (with_reducible refine (aw3 hk2).mono ?_); rintro e w3 ⟨rfl, hk3, ho3⟩)
    | (go_at_call 14; (with_reducible refine (aw4 hk3).mono ?_); rintro e w4 ⟨rfl, hk4, ho4⟩)
    | (go_at_call 16; (with_reducible refine (aw5 hk4).mono ?_); rintro e w' ⟨rfl, rfl⟩)
    | (go_at_call 17; (with_reducible refine (aw6 hk4).mono ?_); rintro e w' ⟨rfl, rfl⟩))
  go_ret
  exact ⟨rfl, ((((ho1.trans ho2).trans ho3).trans ho4)).below HB.out (Nat.le_refl _)⟩
end Go.Proofs.Ytjakidjghjhccaa
