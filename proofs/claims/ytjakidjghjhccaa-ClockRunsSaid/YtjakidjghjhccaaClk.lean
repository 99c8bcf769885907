/-
  The clocks' methods: what each does to a block of 35 cells.
-/
import Derived.Test.YtjakidjghjhccaaProg
import Derived.WalkKit
import Derived.Lib.Hide
import Derived.Laws.Pointers
import Derived.Deep.QuietTactic
import Derived.BigQuiet
import Derived.RegionTactic
import Derived.ChangeAlike
import Derived.BigRegion
namespace Go.Proofs.Ytjakidjghjhccaa
open Go.RowKit
set_option maxRecDepth 100000

@[go_sem high] theorem run_max2' {P : Program} {w : World} (ts : Array TypeId) (t : TypeId) (k k' : IntKind) (x y : Int) : (Builtin.max_ ts t #[.int k x, .int k' y]).run P w = .ok (.int k (max x y)) w := by
  have e : (if y > x then y else x) = max x y := by split <;> omega
  simp [Builtin.max_, Builtin.max2, e]
@[go_sem high] theorem run_max3' {P : Program} {w : World} (ts : Array TypeId) (t : TypeId) (k k' k'' : IntKind) (x y z : Int) : (Builtin.max_ ts t #[.int k x, .int k' y, .int k'' z]).run P w = .ok (.int k (max (max x y) z)) w := by
  have e : (if y > x then y else x) = max x y := by split <;> omega
  have e' : (if z > max x y then z else max x y) = max (max x y) z := by split <;> omega
  simp [Builtin.max_, Builtin.max2, e, e']
@[go_sem high] theorem run_min2' {P : Program} {w : World} (ts : Array TypeId) (t : TypeId) (k k' : IntKind) (x y : Int) : (Builtin.min_ ts t #[.int k x, .int k' y]).run P w = .ok (.int k (min x y)) w := by
  have e : (if y < x then y else x) = min x y := by split <;> omega
  simp [Builtin.min_, Builtin.min2, e]

set_option maxHeartbeats 400000 in
theorem tick_no (b : Nat) (T n : Int) (w : World) (h0 : 1000 ≤ T) (h1 : T ≤ 1099511627776) (hc : w.cell? ⟨b, 1, none⟩ = some (.int .i64 T)) (hn : n < 0 ∨ 10000 < n ∨ 1099511627776 - T ≤ n) :
    Calls Try.prog 10 #[.pointer (some ⟨b, 0, none⟩), .int .i64 n] w fun e w' => e = .returned (.int .i64 1) ∧ w = w' := by
  by_cases a1 : n < 0
  · go_enter Try.func10, Try.ntmps10
    go_wp2
    go_ret
    exact ⟨rfl, rfl⟩
  · by_cases a2 : 10000 < n
    · go_enter Try.func10, Try.ntmps10
      go_wp2
      go_ret
      exact ⟨rfl, rfl⟩
    · have a3 : 1099511627776 - T ≤ n := by omega
      clear hn
      go_enter Try.func10, Try.ntmps10
      go_wp2
      go_ret
      exact ⟨rfl, rfl⟩

set_option maxHeartbeats 400000 in
theorem tick_yes (b : Nat) (T n : Int) (w : World) (h0 : 1000 ≤ T) (h1 : T ≤ 1099511627776) (hc : w.cell? ⟨b, 1, none⟩ = some (.int .i64 T)) (hf : w.frozen? ⟨b, 1, none⟩ = false) (n0 : 0 ≤ n) (n1 : n ≤ 10000) (n2 : n < 1099511627776 - T) :
    Calls Try.prog 10 #[.pointer (some ⟨b, 0, none⟩), .int .i64 n] w fun e w' => e = .returned (.int .i64 0) ∧ w' = w.setCell ⟨b, 1, none⟩ (.int .i64 (T + n)) := by
  go_enter Try.func10, Try.ntmps10
  go_wp2
  go_ret
  exact ⟨rfl, rfl⟩

set_option maxHeartbeats 400000 in
theorem now_any (b k : Nat) (N T o t : Int) (w : World) (hk : (k : Int) < N) (hN : N ≤ 16) (h0 : 1000 ≤ T) (h1 : T ≤ 1099511627776) (ho0 : -100000 ≤ o) (ho1 : o ≤ 100000) (ht0 : 0 ≤ t) (ht1 : t ≤ 1099511627775)
    (hc : w.cell? ⟨b, 1, none⟩ = some (.int .i64 T)) (hc0 : w.cell? ⟨b, 0, none⟩ = some (.int .i64 N)) (hco : w.cell? ⟨b, 3 + k * 2, none⟩ = some (.int .i64 o)) (hct : w.cell? ⟨b, 3 + k * 2 + 1, none⟩ = some (.int .i64 t)) (hf : w.frozen? ⟨b, 3 + k * 2 + 1, none⟩ = false) :
    Calls Try.prog 14 #[.pointer (some ⟨b, 0, none⟩), .int .i64 k] w fun e w' => e = .returned (.int .i64 (min (max 1 (max (T + o) t)) 1099511627775)) ∧ ∃ n, w' = (w.setCell ⟨b, 3 + k * 2 + 1, none⟩ (.int .i64 (min (max 1 (max (T + o) t)) 1099511627775))).drewN n := by
  go_enter Try.func14, Try.ntmps14
  go_wp2
  go_region
  all_goals
    go_wp2
    go_ret
    exact ⟨rfl, 1, rfl⟩

set_option maxHeartbeats 400000 in
theorem now_no (b : Nat) (N i : Int) (w : World) (hk : i < 0 ∨ N ≤ i) (hc0 : w.cell? ⟨b, 0, none⟩ = some (.int .i64 N)) :
    Calls Try.prog 14 #[.pointer (some ⟨b, 0, none⟩), .int .i64 i] w fun e w' => e = .returned (.int .i64 0) ∧ w = w' := by
  by_cases a1 : i < 0
  · go_enter Try.func14, Try.ntmps14
    go_wp2
    go_ret
    exact ⟨rfl, rfl⟩
  · have a3 : N ≤ i := by omega
    clear hk
    go_enter Try.func14, Try.ntmps14
    go_wp2
    go_ret
    exact ⟨rfl, rfl⟩
set_option maxHeartbeats 400000 in
theorem set_20 (b : Nat) (N i o : Int) (w : World) (hk : i < 0 ∨ N ≤ i) (hc0 : w.cell? ⟨b, 0, none⟩ = some (.int .i64 N)) :
    Calls Try.prog 12 #[.pointer (some ⟨b, 0, none⟩), .int .i64 i, .int .i64 o] w fun e w' => e = .returned (.int .i64 20) ∧ w = w' := by
  by_cases a1 : i < 0
  · go_enter Try.func12, Try.ntmps12
    go_wp2
    go_ret
    exact ⟨rfl, rfl⟩
  · have a3 : N ≤ i := by omega
    clear hk
    go_enter Try.func12, Try.ntmps12
    go_wp2
    go_ret
    exact ⟨rfl, rfl⟩
set_option maxHeartbeats 400000 in
theorem set_1 (b : Nat) (N i o : Int) (w : World) (h0 : 0 ≤ i) (h1 : i < N) (ho : o < -100000 ∨ 100000 < o) (hc0 : w.cell? ⟨b, 0, none⟩ = some (.int .i64 N)) :
    Calls Try.prog 12 #[.pointer (some ⟨b, 0, none⟩), .int .i64 i, .int .i64 o] w fun e w' => e = .returned (.int .i64 1) ∧ w = w' := by
  by_cases a1 : o < -100000
  · go_enter Try.func12, Try.ntmps12
    go_wp2
    go_ret
    exact ⟨rfl, rfl⟩
  · have a3 : 100000 < o := by omega
    clear ho
    go_enter Try.func12, Try.ntmps12
    go_wp2
    go_ret
    exact ⟨rfl, rfl⟩
set_option maxHeartbeats 400000 in
theorem set_yes (b k : Nat) (N o x : Int) (wd : Bool) (w : World) (h1 : (k : Int) < N) (hN : N ≤ 16) (o0 : -100000 ≤ o) (o1 : o ≤ 100000) (hc0 : w.cell? ⟨b, 0, none⟩ = some (.int .i64 N)) (hc2 : w.cell? ⟨b, 2, none⟩ = some (.bool wd))
    (hco : w.cell? ⟨b, 3 + k * 2, none⟩ = some (.int .i64 x)) (hf : w.frozen? ⟨b, 3 + k * 2, none⟩ = false) (hf2 : w.frozen? ⟨b, 2, none⟩ = false) :
    Calls Try.prog 12 #[.pointer (some ⟨b, 0, none⟩), .int .i64 k, .int .i64 o] w fun e w' => e = .returned (.int .i64 0) ∧ w' = (w.setCell ⟨b, 3 + k * 2, none⟩ (.int .i64 o)).setCell ⟨b, 2, none⟩ (.bool (wd || (decide (10 < o) || decide (o < -10)))) := by
  have g2 : (w.setCell ⟨b, 3 + k * 2, none⟩ (.int .i64 o)).cell? ⟨b, 2, none⟩ = some (.bool wd) := (World.cell?_setCell_other w ⟨b, 3 + k * 2, none⟩ ⟨b, 2, none⟩ _ (by first | (simp; done) | (simp; omega))).trans hc2
  cases wd
  · by_cases a1 : 10 < o
    · have d1 : decide (10 < o) = true := by simpa using a1
      go_enter Try.func12, Try.ntmps12
      go_wp2
      go_ret
      exact ⟨rfl, by first | rfl | (rw [d1]; rfl)⟩
    · have d1 : decide (10 < o) = false := by simpa using a1
      by_cases a2 : o < -10
      · have d2 : decide (o < -10) = true := by simpa using a2
        go_enter Try.func12, Try.ntmps12
        go_wp2
        go_ret
        exact ⟨rfl, rfl⟩
      · have d2 : decide (o < -10) = false := by simpa using a2
        go_enter Try.func12, Try.ntmps12
        go_wp2
        go_ret
        exact ⟨rfl, rfl⟩
  · go_enter Try.func12, Try.ntmps12
    go_wp2
    go_ret
    exact ⟨rfl, rfl⟩
set_option maxHeartbeats 400000 in
theorem true_any (b : Nat) (T : Int) (w : World) (hc : w.cell? ⟨b, 1, none⟩ = some (.int .i64 T)) :
    Calls Try.prog 16 #[.pointer (some ⟨b, 0, none⟩)] w fun e w' => e = .returned (.int .i64 T) ∧ w = w' := by
  go_enter Try.func16, Try.ntmps16
  go_wp2
  go_ret
  exact ⟨rfl, rfl⟩
set_option maxHeartbeats 400000 in
theorem fair_any (b : Nat) (wd : Bool) (w : World) (hc : w.cell? ⟨b, 2, none⟩ = some (.bool wd)) :
    Calls Try.prog 17 #[.pointer (some ⟨b, 0, none⟩)] w fun e w' => e = .returned (.bool (!wd)) ∧ w = w' := by
  go_enter Try.func17, Try.ntmps17
  go_wp2
  go_ret
  exact ⟨rfl, rfl⟩
set_option maxHeartbeats 400000 in
theorem num_any (n : Int) (w : World) :
    Calls Try.prog 9 #[.int .i64 n] w fun e w' => e = .returned (.int .i64 n) ∧ w = w' := by
  go_enter Try.func9, Try.ntmps9
  go_wp2
  go_ret
  exact ⟨rfl, rfl⟩
set_option maxHeartbeats 400000 in
theorem new_no (n : Int) (w : World) (h : n < 1 ∨ 16 < n) :
    Calls Try.prog 7 #[.int .i64 n] w fun e w' => e = .returned (.tuple #[.pointer none, .int .i64 1]) ∧ w = w' := by
  by_cases a1 : n < 1
  · go_enter Try.func7, Try.ntmps7
    go_wp2
    go_ret2
    exact ⟨rfl, rfl⟩
  · have a2 : 16 < n := by omega
    clear h
    go_enter Try.func7, Try.ntmps7
    go_wp2
    go_ret2
    exact ⟨rfl, rfl⟩
/-- A new block. -/
def fresh (n : Int) : Array Value := #[.int .i64 n, .int .i64 1000, .bool false, .int .i64 0, .int .i64 0, .int .i64 0, .int .i64 0, .int .i64 0, .int .i64 0, .int .i64 0, .int .i64 0, .int .i64 0, .int .i64 0, .int .i64 0, .int .i64 0, .int .i64 0, .int .i64 0, .int .i64 0, .int .i64 0, .int .i64 0, .int .i64 0, .int .i64 0, .int .i64 0, .int .i64 0, .int .i64 0, .int .i64 0, .int .i64 0, .int .i64 0, .int .i64 0, .int .i64 0, .int .i64 0, .int .i64 0, .int .i64 0, .int .i64 0, .int .i64 0]
set_option maxHeartbeats 400000 in
theorem new_yes (n : Int) (w : World) (h0 : 1 ≤ n) (h1 : n ≤ 16) :
    Calls Try.prog 7 #[.int .i64 n] w fun e w' => e = .returned (.tuple #[.pointer (some ⟨w.heap.size, 0, none⟩), .int .i64 0]) ∧ w' = w.alloc (.cells (fresh n) 51) := by
  go_enter Try.func7, Try.ntmps7
  go_wp2
  go_ret2
  exact ⟨rfl, rfl⟩
end Go.Proofs.Ytjakidjghjhccaa
