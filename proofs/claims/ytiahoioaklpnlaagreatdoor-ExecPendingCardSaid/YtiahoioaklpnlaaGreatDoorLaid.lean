/-
  What the row lays of package-level variables gives the machine the cells that it starts with.
-/
import Derived.Test.YtiahoioaklpnlaaGreatDoorMemos
import Derived.Test.YtiahoioaklpnlaaGreatDoorTie
import Derived.LaidMore
import Derived.OpenShut
import Derived.Stop.Joined
namespace Go.Proofs.YtiahoioaklpnlaaGreatDoor
open Go.ChangeShapes Go.WideShapes Go.ChangeAt Go.WideElems Go.RowKit
open Go.Am (GLok glok_of_cells glok_nil AV VR Inj)
set_option maxRecDepth 100000

theorem ownK : ownKnob Tryz.prog.godebug = none := by kernel_rfl
theorem gWhite : Tryz.prog.globalNamed "unicode.White_Space" = some 2 := by kernel_rfl
theorem gSpace : Tryz.prog.globalNamed "strings.asciiSpace" = some 1 := by kernel_rfl
theorem tSpace : (Tryz.prog.globals[1]?).map (·.type) = some 345 := by kernel_rfl

abbrev laid2 : List (String × DataW Unit) := [("unicode.White_Space", Rows.laid_unicode_White_Space), ("strings.asciiSpace", Rows.laid_strings_asciiSpace)]
def spaceL : List (DataW Unit) := match (Rows.laid_strings_asciiSpace : DataW Unit) with
  | .agg l => l
  | _ => []
theorem spaceL_eq : (Rows.laid_strings_asciiSpace : DataW Unit) = .agg spaceL := rfl
noncomputable def litAV : DataW Unit → AV
  | .lit (.int .u8 n) => .int .u8 n
  | _ => .top
def isU8 : DataW Unit → Bool
  | .lit (.int .u8 _) => true
  | _ => false
theorem spaceL_all : spaceL.all isU8 = true := by kernel_rfl
theorem spaceL_len : spaceL.length = 256 := by kernel_rfl
theorem gl1_eq : gl1 = [(1, spaceL.map litAV)] := by kernel_rfl

theorem door_met (os : Os) (args : Array Value) : laidMetH Tryz.prog laid2 ((World.doorLaid Tryz.prog 400 os).forCall (fun _ _ => 0) ⟨#[], args, []⟩).memory :=
  laidMetH_of_parts3 (fuel := 8) (laidMet_of_run' 8 (by kernel_rfl) (by kernel_rfl)) (by kernel_rfl) (by kernel_rfl)

theorem of_laid {W : World} (h : laidMetH Tryz.prog laid2 W) : GLok W gl1 := by
  rw [MakeChecks.laidMetH_plain _ _ _ (by kernel_rfl)] at h
  obtain ⟨ps, ⟨g0, t0, cs0, f0, p0, q0, hg0, ht0, hv0, hd0, ⟨g1, t1, cs1, f1, p1, q1, hg1, ht1, hv1, hd1, _, _⟩, _⟩, _, _⟩ := h
  obtain rfl := Option.some.inj (gSpace.symm.trans hg1)
  obtain rfl := Option.some.inj (tSpace.symm.trans ht1)
  clear hd0 hv0 ht0 hg0
  obtain ⟨xs, m1, rfl, hx1, hlen, hn, hel⟩ := DataW.trod_array Tryz.underlying345 hd1
  have c5 : Tryz.prog.cellsOf 5 = 1 := by kernel_rfl
  rw [c5] at hel
  have hxs : xs.map (·.1) = spaceL := by
    have := congrArg (·.1) hx1
    simp only at this
    rw [spaceL_eq] at this
    exact (DataW.agg.inj this).symm
  rw [gl1_eq]
  refine glok_of_cells (fun e => ?_) (fun i v hv => ?_) (glok_nil _)
  · have := congrArg List.length e
    rw [List.length_map, spaceL_len] at this
    cases this
  · rw [List.getElem?_map] at hv
    cases hd : spaceL[i]? with
    | none => rw [hd] at hv; cases hv
    | some d =>
      rw [hd] at hv
      have hi : i < 256 := by
        have := (List.getElem?_eq_some_iff.mp hd).1
        rw [spaceL_len] at this
        exact this
      have hu : isU8 d = true := List.all_eq_true.mp spaceL_all d (List.mem_of_getElem? hd)
      have hxi := hel i hi
      rw [← hxs, List.getElem?_map] at hd
      cases hx : xs[i]? with
      | none => rw [hx] at hd; cases hd
      | some x =>
        rw [hx] at hd hxi
        obtain ⟨n, e1, e2, _⟩ := DataW.trod_int Tryz.underlying5 hxi
        simp only [Option.map_some, Option.some.injEq] at hd hv
        rw [e2] at hd
        simp only at hd
        subst hd
        unfold litAV at hv
        have hkk : ∀ {k : IntKind} {j : Int}, isU8 (.lit (.int k j)) = true → k = .u8 := fun {k j} h => by
          cases k <;> first | rfl | cases h
        refine ⟨.int .u8 n, ?_, by rw [← hv]; simp [VR]⟩
        rw [World.var?_cell hg1 hv1 i]
        have h1 : (cs1.toList.drop (i * 1)).take 1 = [Value.int .u8 n] := e1
        have h2 : ((cs1.toList.drop (i * 1)).take 1)[0]? = some (Value.int .u8 n) := by rw [h1]; rfl
        rw [List.getElem?_take_of_lt (by omega), List.getElem?_drop] at h2
        simpa using h2
end Go.Proofs.YtiahoioaklpnlaaGreatDoor
