/-
  The argument, a slice of acts: opened.
-/
import Derived.Test.YtjakidjghjhccaaActs
import Derived.Test.YtjakidjghjhccaaRows
import Derived.Deep.Slices
import Derived.Deep.Fields
import Derived.ChangeSame
import Derived.DataReads
namespace Go.Proofs.Ytjakidjghjhccaa
open Go.ChangeShapes Go.WideShapes Go.Deep

section
variable {H : Type} {enc : TypeId × Value → H} {P : Program} {w : World} {base : Nat} {spare : Nat → Bool} {held : Bool}
theorem open_slice_fields {t e : TypeId} {fs : Array Field} {fuel : Nat} {cs : List Value} {x : DataW H × List MemPlace} (ht : P.underlying t = some (.slice e)) (he : P.underlying e = some (.struct fs))
    (hone : oneCellFields P fs = true) (hC : P.cellsOf e = fs.size) (h : DataW.trod enc P w base spare held fuel t cs = some x) :
    (cs = [.slice none 0 0] ∧ x = (.nil, [])) ∨
    ∃ (a : Addr) (len cap m : Nat) (D : Nat → DataW H) (Pl : Nat → List MemPlace), cs = [.slice (some a) len cap] ∧ base ≤ a.block ∧ len ≤ cap ∧ cap ≤ maxLen ∧ m = (if spare a.block then cap else len) ∧
      x = (.slice ((List.range len).map D) ((List.range (m - len)).map fun j => D (len + j)), MemPlace.row a (m * fs.size) ++ (List.range m).flatMap Pl) ∧
      ∀ i, i < m → ∃ (ys : List (DataW H × List MemPlace)) (n : Nat), D i = .agg (ys.map (·.1)) ∧ Pl i = ys.flatMap (·.2) ∧ ys.length = fs.size ∧
        ∀ (j : Nat) (f : Field), fs[j]? = some f → ∃ (v : Value) (y : DataW H × List MemPlace), w.cell? (a.add (i * fs.size + j)) = some v ∧ ys[j]? = some y ∧ DataW.trod enc P w base spare held n f.type [v] = some y := by
  rcases open_slice ht h with h0 | ⟨a, len, cap, m, n, D, Pl, hcs, hb, hl, hm, hmm, hx, hi⟩
  · exact .inl h0
  · refine .inr ⟨a, len, cap, m, D, Pl, hcs, hb, hl, hm, hmm, by rw [hC] at hx; exact hx, fun i him => ?_⟩
    obtain ⟨cs', hc, ht'⟩ := hi i him
    rw [hC] at hc
    obtain ⟨ys, n', hn', hy, hlen, hyl, hf⟩ := DataW.trod_struct he ht'
    obtain ⟨_, hcl, hat⟩ := World.cells?_some hc
    simp only [Prod.mk.injEq] at hy
    refine ⟨ys, n', hy.1, hy.2, hyl, fun j f hj => ?_⟩
    obtain ⟨ho, hk⟩ := hone_of hone j f hj
    have hjl : j < fs.size := (Array.getElem?_eq_some_iff.1 hj).1
    have hcell := hat j hjl
    have hv : cs'[j]? = some (cs'[j]'(by omega)) := List.getElem?_eq_getElem (by omega)
    have h1 := hf j f hj
    rw [ho, hk] at h1
    have hone' : (cs'.drop j).take 1 = [cs'[j]'(by omega)] := by
      rw [List.drop_eq_getElem_cons (by omega)]
      rfl
    rw [hone'] at h1
    have hys : ys[j]? = some (ys[j]'(by omega)) := List.getElem?_eq_getElem (by omega)
    refine ⟨_, _, ?_, hys, h1.trans hys⟩
    rw [← Go.Deep.add_add, hcell, hv]
end

theorem cell_lt {w : World} {a : Addr} {v : Value} (h : w.cell? a = some v) : a.block < w.heap.size := by
  rcases Nat.lt_or_ge a.block w.heap.size with hl | hl
  · exact hl
  · exfalso
    have e : w.heap[a.block]? = none := Array.getElem?_eq_none hl
    unfold World.cell? at h
    simp [e] at h
def intIn : Option Value → Int
  | some (.int _ n) => n
  | _ => 0
theorem intIn_of {o : Option Value} {n : Int} (h : o = some (.int .i64 n)) : o = some (.int .i64 (intIn o)) := by subst h; rfl
theorem add_flat (b o n : Nat) : (⟨b, o, none⟩ : Addr).add n = ⟨b, o + n, none⟩ := by
  cases n <;> simp [Addr.add]
theorem open_acts {H : Type} {enc : TypeId × Value → H} {W : World} {sp : Nat → Bool} {r : Reach} {base : Nat} {v : Value} {d : DataW H} {p : List MemPlace} (ho : Value.okWide Try.prog W r base 22 v) (h : DataW.Trod enc Try.prog W 0 sp true 22 v d p) :
    ∃ (la : Option Addr) (lb off len cap : Nat) (A : Nat → Int × Int × Int), v = .slice la len cap ∧ (0 < len → la = some ⟨lb, off, none⟩) ∧ Acts W lb off len A ∧ len ≤ 9223372036854775807 := by
  obtain ⟨la, len, cap, rfl⟩ := okWide_slice Try.underlying22 ho
  obtain ⟨fuel, hf⟩ := h
  have hf' : DataW.trod enc Try.prog W 0 sp true fuel 22 [.slice la len cap] = some (d, p) := hf
  rcases open_slice_fields Try.underlying22 Try.underlying32 (by kernel_rfl) (by kernel_rfl) hf' with ⟨hc, hx⟩ | ⟨a, len', cap', m, D, Pl, hc, _, hl, hm, hmm, hx, hall⟩
  · simp only [List.cons.injEq, Value.slice.injEq, and_true] at hc
    obtain ⟨rfl, rfl, rfl⟩ := hc
    exact ⟨none, 0, 0, 0, 0, fun _ => (0, 0, 0), rfl, fun h => absurd h (by omega), ⟨fun j h => absurd h (by omega), fun j h => absurd h (by omega), fun j h => absurd h (by omega), fun h => absurd h (by omega)⟩, by omega⟩
  · simp only [List.cons.injEq, Value.slice.injEq, and_true] at hc
    obtain ⟨rfl, rfl, rfl⟩ := hc
    have hlm : len ≤ m := by rw [hmm]; split <;> omega
    have key : ∀ i, i < len → ∃ x y z : Int, W.cell? (a.add (i * 3)) = some (.int .i64 x) ∧ W.cell? (a.add (i * 3 + 1)) = some (.int .i64 y) ∧ W.cell? (a.add (i * 3 + 2)) = some (.int .i64 z) := by
      intro i hi
      obtain ⟨ys, n, _, _, _, hf⟩ := hall i (by omega)
      obtain ⟨v0, y0, c0, _, t0⟩ := hf 0 _ rfl
      obtain ⟨v1, y1, c1, _, t1⟩ := hf 1 _ rfl
      obtain ⟨v2, y2, c2, _, t2⟩ := hf 2 _ rfl
      obtain ⟨k0, e0, _⟩ := DataW.trod_int Try.underlying3 t0
      obtain ⟨k1, e1, _⟩ := DataW.trod_int Try.underlying3 t1
      obtain ⟨k2, e2, _⟩ := DataW.trod_int Try.underlying3 t2
      simp at e0 e1 e2
      subst e0 e1 e2
      rw [show i * (#[_, _, _] : Array Field).size + 0 = i * 3 from rfl] at c0
      exact ⟨k0, k1, k2, c0, c1, c2⟩
    by_cases h0 : len = 0
    · subst h0
      exact ⟨some a, 0, 0, 0, cap, fun _ => (0, 0, 0), rfl, fun h => absurd h (by omega), ⟨fun j h => absurd h (by omega), fun j h => absurd h (by omega), fun j h => absurd h (by omega), fun h => absurd h (by omega)⟩, by omega⟩
    · obtain ⟨lb, off, spot⟩ := a
      obtain ⟨_, _, _, c0, _, _⟩ := key 0 (by omega)
      have hs : spot = none := World.cell?_spot c0
      subst hs
      refine ⟨_, lb, off, len, cap, fun i => (intIn (W.cell? ⟨lb, off + i * 3, none⟩), intIn (W.cell? ⟨lb, off + i * 3 + 1, none⟩), intIn (W.cell? ⟨lb, off + i * 3 + 2, none⟩)), rfl, fun _ => rfl, ⟨fun j h => ?_, fun j h => ?_, fun j h => ?_, fun _ => cell_lt c0⟩, by unfold maxLen at hm; omega⟩
      all_goals
        obtain ⟨x, y, z, c0, c1, c2⟩ := key j h
      · rw [add_flat] at c0
        exact intIn_of c0
      · exact intIn_of c1
      · exact intIn_of c2
end Go.Proofs.Ytjakidjghjhccaa
