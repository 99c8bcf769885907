/-
  slices.Sorted(maps.Keys(m)) in this program: the contract's premises, each a closed fact.
-/
import Derived.Shelf.SlIter.Nil
import Derived.Shelf.SortM.Plain
import Derived.Shelf.SortM.SortNone
import Derived.Test.YtiahoioaklpnlaaGreatDoorProg
import Derived.Test.YtiahoioaklpnlaaGreatDoorAmSorted
namespace Go.Proofs.YtiahoioaklpnlaaGreatDoor
open Go.RowKit Go.Maps Go.Sort Go.Shelf Go.Proofs
def keysA_ren : Go.Shelf.Ren := ⟨fun | 7 => 51 | 10 => 98 | n => n, fun | 23 => 125 | 26 => 9 | 3 => 3 | 28 => 137 | 0 => 0 | 27 => 136 | 33 => 79 | 4 => 4 | n => n, fun | n => n⟩
theorem keysA : Go.Proofs.SlLaysZ.n7 Tryz.prog keysA_ren where
  mixed := by kernel_rfl
  f7 := ⟨"maps.Keys[map[string]int,string,int]", by decide, Tryz.func51.trans (congrArg some (by kernel_rfl))⟩
  f10 := ⟨"maps.Keys[map[string]int,string,int]$1", by decide, Tryz.func98.trans (congrArg some (by kernel_rfl))⟩
  t0 := Tryz.underlying0
  a0 := Tryz.isAgg0
  z0 := Tryz.sizeOf0
  v0 := Tryz.zeroValue0
  t4 := Tryz.underlying4
  a4 := Tryz.isAgg4
  z4 := Tryz.sizeOf4
  v4 := Tryz.zeroValue4
  t23 := Tryz.underlying125
  a23 := Tryz.isAgg125
  z23 := Tryz.sizeOf125
  v23 := Tryz.zeroValue125
  t26 := Tryz.underlying9
  a26 := Tryz.isAgg9
  z26 := Tryz.sizeOf9
  v26 := Tryz.zeroValue9
  t27 := Tryz.underlying136
  a27 := Tryz.isAgg136
  z27 := Tryz.sizeOf136
  v27 := Tryz.zeroValue136
  t28 := Tryz.underlying137
  a28 := Tryz.isAgg137
  z28 := Tryz.sizeOf137
  v28 := Tryz.zeroValue137
  t33 := Tryz.underlying79
  a33 := Tryz.isAgg79
  z33 := Tryz.sizeOf79
  v33 := Tryz.zeroValue79
def keysB_ren : Go.Shelf.Ren := ⟨fun | 7 => 53 | 10 => 99 | n => n, fun | 23 => 132 | 26 => 9 | 3 => 112 | 28 => 137 | 0 => 0 | 27 => 136 | 33 => 79 | 4 => 4 | n => n, fun | n => n⟩
theorem keysB : Go.Proofs.SlLaysZ.n7 Tryz.prog keysB_ren where
  mixed := by kernel_rfl
  f7 := ⟨"maps.Keys[map[string]falsework/api.Write,string,falsework/api.Write]", by decide, Tryz.func53.trans (congrArg some (by kernel_rfl))⟩
  f10 := ⟨"maps.Keys[map[string]falsework/api.Write,string,falsework/api.Write]$1", by decide, Tryz.func99.trans (congrArg some (by kernel_rfl))⟩
  t0 := Tryz.underlying0
  a0 := Tryz.isAgg0
  z0 := Tryz.sizeOf0
  v0 := Tryz.zeroValue0
  t4 := Tryz.underlying4
  a4 := Tryz.isAgg4
  z4 := Tryz.sizeOf4
  v4 := Tryz.zeroValue4
  t23 := Tryz.underlying132
  a23 := Tryz.isAgg132
  z23 := Tryz.sizeOf132
  v23 := Tryz.zeroValue132
  t26 := Tryz.underlying9
  a26 := Tryz.isAgg9
  z26 := Tryz.sizeOf9
  v26 := Tryz.zeroValue9
  t27 := Tryz.underlying136
  a27 := Tryz.isAgg136
  z27 := Tryz.sizeOf136
  v27 := Tryz.zeroValue136
  t28 := Tryz.underlying137
  a28 := Tryz.isAgg137
  z28 := Tryz.sizeOf137
  v28 := Tryz.zeroValue137
  t33 := Tryz.underlying79
  a33 := Tryz.isAgg79
  z33 := Tryz.sizeOf79
  v33 := Tryz.zeroValue79
def sortedA_ren : Go.Shelf.Ren := ⟨fun | 6 => 50 | 8 => 96 | 9 => 97 | 11 => 154 | 13 => 156 | 12 => 155 | 23 => 217 | 24 => 218 | 14 => 208 | 15 => 209 | 16 => 210 | 17 => 211 | 18 => 212 | 19 => 213 | 20 => 214 | 21 => 215 | 22 => 216 | 25 => 275 | 26 => 276 | 27 => 277 | 28 => 278 | 29 => 279 | 30 => 175 | 31 => 296 | n => n, fun | 26 => 9 | 28 => 137 | 24 => 22 | 0 => 0 | 3 => 3 | 37 => 236 | 48 => 303 | 50 => 59 | 4 => 4 | 40 => 296 | 39 => 295 | 45 => 287 | 5 => 5 | 9 => 9 | 51 => 348 | 55 => 352 | 57 => 369 | 58 => 217 | 33 => 79 | n => n, fun | n => n⟩
theorem sortedA : Go.Proofs.SlLaysZ.n6 Tryz.prog sortedA_ren where
  mixed := by kernel_rfl
  f6 := ⟨"slices.Sorted[string]", by decide, Tryz.func50.trans (congrArg some (by kernel_rfl))⟩
  f8 := ⟨"slices.Collect[string]", by decide, Tryz.func96.trans (congrArg some (by kernel_rfl))⟩
  f11 := ⟨"slices.AppendSeq[[]string,string]", by decide, Tryz.func154.trans (congrArg some (by kernel_rfl))⟩
  t0 := Tryz.underlying0
  a0 := Tryz.isAgg0
  z0 := Tryz.sizeOf0
  v0 := Tryz.zeroValue0
  t24 := Tryz.underlying22
  a24 := Tryz.isAgg22
  z24 := Tryz.sizeOf22
  v24 := Tryz.zeroValue22
  t26 := Tryz.underlying9
  a26 := Tryz.isAgg9
  z26 := Tryz.sizeOf9
  v26 := Tryz.zeroValue9
  t28 := Tryz.underlying137
  a28 := Tryz.isAgg137
  z28 := Tryz.sizeOf137
  v28 := Tryz.zeroValue137
  i26 := by kernel_rfl
def sortA_ren : Go.Shelf.Ren := ⟨fun | 6 => 97 | 8 => 156 | 9 => 155 | 19 => 217 | 20 => 218 | 21 => 208 | 22 => 209 | 23 => 210 | 24 => 211 | 25 => 212 | 26 => 213 | 27 => 214 | 28 => 215 | 29 => 216 | 36 => 275 | 31 => 276 | 32 => 277 | 37 => 278 | 38 => 279 | 39 => 175 | 41 => 296 | n => n, fun | 27 => 22 | 29 => 9 | 3 => 3 | 32 => 236 | 26 => 22 | 0 => 0 | 44 => 303 | 46 => 59 | 4 => 4 | 36 => 296 | 35 => 295 | 41 => 287 | 5 => 5 | 9 => 9 | 53 => 348 | 57 => 352 | 63 => 369 | 64 => 217 | n => n, fun | n => n⟩
theorem sortA : Go.Proofs.SlLaysM.n6 Tryz.prog sortA_ren where
  mixed := by kernel_rfl
  f6 := ⟨"slices.Sort[[]string,string]", by decide, Tryz.func97.trans (congrArg some (by kernel_rfl))⟩
  f8 := Tryz.func156.trans (congrArg some (by kernel_rfl))
  f9 := ⟨"slices.pdqsortOrdered[string]", by decide, Tryz.func155.trans (congrArg some (by kernel_rfl))⟩
  f19 := Tryz.func217.trans (congrArg some (by kernel_rfl))
  f20 := Tryz.func218.trans (congrArg some (by kernel_rfl))
  f21 := ⟨"slices.insertionSortOrdered[string]", by decide, Tryz.func208.trans (congrArg some (by kernel_rfl))⟩
  f22 := ⟨"slices.heapSortOrdered[string]", by decide, Tryz.func209.trans (congrArg some (by kernel_rfl))⟩
  f23 := ⟨"slices.breakPatternsOrdered[string]", by decide, Tryz.func210.trans (congrArg some (by kernel_rfl))⟩
  f24 := ⟨"slices.choosePivotOrdered[string]", by decide, Tryz.func211.trans (congrArg some (by kernel_rfl))⟩
  f25 := ⟨"slices.reverseRangeOrdered[string]", by decide, Tryz.func212.trans (congrArg some (by kernel_rfl))⟩
  f26 := ⟨"slices.partialInsertionSortOrdered[string]", by decide, Tryz.func213.trans (congrArg some (by kernel_rfl))⟩
  f27 := ⟨"cmp.Less[string]", by decide, Tryz.func214.trans (congrArg some (by kernel_rfl))⟩
  f28 := ⟨"slices.partitionEqualOrdered[string]", by decide, Tryz.func215.trans (congrArg some (by kernel_rfl))⟩
  f29 := ⟨"slices.partitionOrdered[string]", by decide, Tryz.func216.trans (congrArg some (by kernel_rfl))⟩
  f31 := Tryz.func276.trans (congrArg some (by kernel_rfl))
  f32 := Tryz.func277.trans (congrArg some (by kernel_rfl))
  f36 := ⟨"slices.siftDownOrdered[string]", by decide, Tryz.func275.trans (congrArg some (by kernel_rfl))⟩
  f37 := ⟨"slices.medianAdjacentOrdered[string]", by decide, Tryz.func278.trans (congrArg some (by kernel_rfl))⟩
  f38 := ⟨"slices.medianOrdered[string]", by decide, Tryz.func279.trans (congrArg some (by kernel_rfl))⟩
  f39 := ⟨"cmp.isNaN[string]", by decide, Tryz.func175.trans (congrArg some (by kernel_rfl))⟩
  f41 := ⟨"slices.order2Ordered[string]", by decide, Tryz.func296.trans (congrArg some (by kernel_rfl))⟩
  t0 := Tryz.underlying0
  a0 := Tryz.isAgg0
  z0 := Tryz.sizeOf0
  v0 := Tryz.zeroValue0
  t3 := Tryz.underlying3
  a3 := Tryz.isAgg3
  z3 := Tryz.sizeOf3
  v3 := Tryz.zeroValue3
  t4 := Tryz.underlying4
  a4 := Tryz.isAgg4
  z4 := Tryz.sizeOf4
  v4 := Tryz.zeroValue4
  t5 := Tryz.underlying5
  a5 := Tryz.isAgg5
  z5 := Tryz.sizeOf5
  v5 := Tryz.zeroValue5
  t9 := Tryz.underlying9
  a9 := Tryz.isAgg9
  z9 := Tryz.sizeOf9
  v9 := Tryz.zeroValue9
  t26 := Tryz.underlying22
  a26 := Tryz.isAgg22
  z26 := Tryz.sizeOf22
  v26 := Tryz.zeroValue22
  t27 := Tryz.underlying22
  a27 := Tryz.isAgg22
  z27 := Tryz.sizeOf22
  v27 := Tryz.zeroValue22
  t29 := Tryz.underlying9
  a29 := Tryz.isAgg9
  z29 := Tryz.sizeOf9
  v29 := Tryz.zeroValue9
  t32 := Tryz.underlying236
  a32 := Tryz.isAgg236
  z32 := Tryz.sizeOf236
  v32 := Tryz.zeroValue236
  t35 := Tryz.underlying295
  a35 := Tryz.isAgg295
  z35 := Tryz.sizeOf295
  v35 := Tryz.zeroValue295
  t36 := Tryz.underlying296
  a36 := Tryz.isAgg296
  z36 := Tryz.sizeOf296
  v36 := Tryz.zeroValue296
  t41 := Tryz.underlying287
  a41 := Tryz.isAgg287
  z41 := Tryz.sizeOf287
  v41 := Tryz.zeroValue287
  t44 := Tryz.underlying303
  a44 := Tryz.isAgg303
  z44 := Tryz.sizeOf303
  v44 := Tryz.zeroValue303
  t46 := Tryz.underlying59
  a46 := Tryz.isAgg59
  z46 := Tryz.sizeOf59
  v46 := Tryz.zeroValue59
  t53 := Tryz.underlying348
  a53 := Tryz.isAgg348
  z53 := Tryz.sizeOf348
  v53 := Tryz.zeroValue348
  t57 := Tryz.underlying352
  a57 := Tryz.isAgg352
  z57 := Tryz.sizeOf352
  v57 := Tryz.zeroValue352
  t63 := Tryz.underlying369
  a63 := Tryz.isAgg369
  z63 := Tryz.sizeOf369
  v63 := Tryz.zeroValue369
  t64 := Tryz.underlying217
  a64 := Tryz.isAgg217
  z64 := Tryz.sizeOf217
  v64 := Tryz.zeroValue217
theorem sortsL : ∀ f ∈ ([6, 8, 9, 20, 21, 22, 23, 24, 25, 26, 27, 28, 29, 31, 32, 36, 37, 38, 39, 41].map sortA_ren.f), ∃ fn, Tryz.prog.funcs[f]? = some fn := by
  have h : (([6, 8, 9, 20, 21, 22, 23, 24, 25, 26, 27, 28, 29, 31, 32, 36, 37, 38, 39, 41].map sortA_ren.f).all fun f => (Tryz.prog.funcs[f]?).isSome) = true := by kernel_rfl
  exact fun f hf => Option.isSome_iff_exists.mp (List.all_eq_true.mp h f hf)
theorem sortsA (m : Nat) : AnyZ.SortsIn Tryz.prog sortedA_ren (Go.Am.FE Tryz.prog none) m :=
  ⟨fun blk off cap ss W hH hblk hsz => Go.Am.callsIn_every sortsL (fun D => AnySM.slices_Sort_string_in sortA D blk off cap ss W hH hblk hsz),
   fun p cap W => Go.Am.callsIn_every sortsL (fun D => AnySM.slices_Sort_string_none_in sortA D p cap W)⟩
theorem sorted50 : Go.Am.SortedOK Tryz.prog 50 9 [98, 99] where
  enter := enters_of Tryz.func50 (by kernel_rfl) rfl
  und := Tryz.underlying9
  keys := by
    intro g hg Bm b nn D0 R w hB hc hown hmax hbytes
    have hg' : g = 98 ∨ g = 99 := by
      simp only [Go.Am.hasN] at hg
      split at hg
      · rename_i e; exact .inl (Nat.beq_eq.mp e)
      · split at hg
        · rename_i e; exact .inr (Nat.beq_eq.mp e)
        · cases hg
    rcases hg' with rfl | rfl
    · have hseq : SeqGives (Go.Am.FE Tryz.prog none) 2 Tryz.prog 98 #[.pointer (some ⟨Bm, 0, none⟩)] encStr (fun ss => ss.Perm (strKeys D0)) (Maps.size D0) w :=
        AnyZ.keys_gives (ρ := keysA_ren) { keysA with } (Go.Am.FE Tryz.prog none) _ ⟨_, Tryz.func98⟩ rfl (by omega) Bm b nn D0 _ hB hc hown
      have cS := AnyZ.sorted_in sortedA (Go.Am.FE Tryz.prog none) 5 ⟨_, Tryz.func50⟩ ⟨_, Tryz.func96⟩ ⟨_, Tryz.func97⟩ ⟨_, Tryz.func154⟩ rfl (by omega) (sortsA _) (enters_of Tryz.func97 (by kernel_rfl) rfl) 98 #[.pointer (some ⟨Bm, 0, none⟩)] ⟨_, Tryz.func98⟩ (enters_of Tryz.func98 (by kernel_rfl) rfl) _ _ hmax hbytes _ hseq
      exact Go.Am.callsIn_room cS
    · have hseq : SeqGives (Go.Am.FE Tryz.prog none) 2 Tryz.prog 99 #[.pointer (some ⟨Bm, 0, none⟩)] encStr (fun ss => ss.Perm (strKeys D0)) (Maps.size D0) w :=
        AnyZ.keys_gives (ρ := keysB_ren) { keysB with } (Go.Am.FE Tryz.prog none) _ ⟨_, Tryz.func99⟩ rfl (by omega) Bm b nn D0 _ hB hc hown
      have cS := AnyZ.sorted_in sortedA (Go.Am.FE Tryz.prog none) 5 ⟨_, Tryz.func50⟩ ⟨_, Tryz.func96⟩ ⟨_, Tryz.func97⟩ ⟨_, Tryz.func154⟩ rfl (by omega) (sortsA _) (enters_of Tryz.func97 (by kernel_rfl) rfl) 99 #[.pointer (some ⟨Bm, 0, none⟩)] ⟨_, Tryz.func99⟩ (enters_of Tryz.func99 (by kernel_rfl) rfl) _ _ hmax hbytes _ hseq
      exact Go.Am.callsIn_room cS
end Go.Proofs.YtiahoioaklpnlaaGreatDoor
