/-
  seal.Sum and the document's Sum: what they answer.
-/
import Derived.Test.YtofohkdkpbigiaaGreatProg
import Derived.Test.YtofohkdkpbigiaaGreatAmSum
import Derived.WalkKit
namespace Go.Proofs.YtofohkdkpbigiaaGreat
open Go.RowKit Go.Am
set_option maxHeartbeats 400000 in
theorem sum90 (s : ByteArray) (w : World) (hs : s.size ≤ 9223372036854775807) :
    Calls Tryz.prog 90 #[.string s] w fun e w' => e = .returned (.int .u32 (bits .xor .u32 4294967295 (crc s.data.toList))) ∧ w' = w := by
  go_enter Tryz.func90, Tryz.ntmps90
  go_wp2
  go_loop [3, 7] (fun c i => ∃ (k : Nat), k ≤ s.size ∧ i = .int .i64 k ∧ c = .int .u32 (crc (s.data.toList.take k))) (fun _ i => s.size - (intOf i).toNat)
  case atStart => exact ⟨0, by omega, rfl, rfl⟩
  case round =>
    obtain ⟨k, hk, rfl, rfl⟩ := hrel
    have hC := crc_range (s.data.toList.take k)
    go_wp2
    · have hlt : k < s.size := by assumption
      go_loop [3, 16] (fun c i => ∃ (j : Nat), j ≤ 8 ∧ i = .int .i64 j ∧ c = .int .u32 (bitSteps j (bits BinOp.xor IntKind.u32 (crc (s.data.toList.take k)) ((s[k].toNat : Int) % 4294967296)))) (fun _ i => 8 - (intOf i).toNat)
      case atStart => exact ⟨0, by omega, rfl, rfl⟩
      case round =>
        obtain ⟨j, hj, rfl, rfl⟩ := hrel
        have hD := bitSteps_range (bits_range .xor (crc (s.data.toList.take k)) ((s[k].toNat : Int) % 4294967296)) j
        go_wp2
        · rename_i h1 h2
          refine ⟨⟨j + 1, by omega, rfl, ?_⟩, by simp [intOf]; omega⟩
          simp only [bitSteps, bitStep, h2, if_true]
        · rename_i h1 h2
          refine ⟨⟨j + 1, by omega, rfl, ?_⟩, by simp [intOf]; omega⟩
          simp only [bitSteps, bitStep, h2, Bool.false_eq_true, if_false]
        · have hj8 : j = 8 := by omega
          subst hj8
          refine ⟨⟨k + 1, by omega, rfl, ?_⟩, by simp [intOf]; omega⟩
          rw [crc_take hlt]
          rfl
    · have hke : k = s.size := by omega
      subst hke
      go_ret
      have ht : s.data.toList.take s.size = s.data.toList := List.take_of_length_le (by simp)
      rw [ht]
      exact ⟨rfl, rfl⟩
set_option maxHeartbeats 400000 in
theorem sum67 (s : ByteArray) (w : World) (hs : s.size ≤ 9223372036854775807) :
    Calls Tryz.prog 67 #[.string s] w fun e w' => e = .returned (.int .u32 (bits .xor .u32 4294967295 (crc s.data.toList))) ∧ w' = w := by
  go_enter Tryz.func67, Tryz.ntmps67
  go_wp2
  go_loop [3, 4] (fun c i => ∃ (k : Nat), k ≤ s.size ∧ i = .int .i64 k ∧ c = .int .u32 (crc (s.data.toList.take k))) (fun _ i => s.size - (intOf i).toNat)
  case atStart => exact ⟨0, by omega, rfl, rfl⟩
  case round =>
    obtain ⟨k, hk, rfl, rfl⟩ := hrel
    have hC := crc_range (s.data.toList.take k)
    go_wp2
    · have hlt : k < s.size := by assumption
      go_loop [3, 5] (fun c i => ∃ (j : Nat), j ≤ 8 ∧ i = .int .i64 j ∧ c = .int .u32 (bitSteps j (bits BinOp.xor IntKind.u32 (crc (s.data.toList.take k)) ((s[k].toNat : Int) % 4294967296)))) (fun _ i => 8 - (intOf i).toNat)
      case atStart => exact ⟨0, by omega, rfl, rfl⟩
      case round =>
        obtain ⟨j, hj, rfl, rfl⟩ := hrel
        have hD := bitSteps_range (bits_range .xor (crc (s.data.toList.take k)) ((s[k].toNat : Int) % 4294967296)) j
        go_wp2
        · rename_i h1 h2
          refine ⟨⟨j + 1, by omega, rfl, ?_⟩, by simp [intOf]; omega⟩
          simp only [bitSteps, bitStep, h2, if_true]
        · rename_i h1 h2
          refine ⟨⟨j + 1, by omega, rfl, ?_⟩, by simp [intOf]; omega⟩
          simp only [bitSteps, bitStep, h2, Bool.false_eq_true, if_false]
        · have hj8 : j = 8 := by omega
          subst hj8
          refine ⟨⟨k + 1, by omega, rfl, ?_⟩, by simp [intOf]; omega⟩
          rw [crc_take hlt]
          rfl
    · have hke : k = s.size := by omega
      subst hke
      go_ret
      have ht : s.data.toList.take s.size = s.data.toList := List.take_of_length_le (by simp)
      rw [ht]
      exact ⟨rfl, rfl⟩
end Go.Proofs.YtofohkdkpbigiaaGreat
