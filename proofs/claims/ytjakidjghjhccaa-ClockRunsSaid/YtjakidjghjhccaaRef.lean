/-
  The document's clocks: what each method does.
-/
import Derived.Test.YtjakidjghjhccaaActs
import Derived.Laws.MakeOwn
namespace Go.Proofs.Ytjakidjghjhccaa
open Go.RowKit
set_option maxRecDepth 100000
set_option maxHeartbeats 400000 in
theorem ref_new_no (n : Int) (w : World) (h : n < 1 ∨ 16 < n) :
    Calls Try.prog 8 #[.int .i64 n] w fun e w' => e = .returned (.tuple #[.pointer none, .int .i64 1]) ∧ w = w' := by
  by_cases a1 : n < 1
  · go_enter Try.func8, Try.ntmps8
    go_wp2
    go_ret2
    exact ⟨rfl, rfl⟩
  · have a2 : 16 < n := by omega
    clear h
    go_enter Try.func8, Try.ntmps8
    go_wp2
    go_ret2
    exact ⟨rfl, rfl⟩
theorem info3 : (Try.prog.info? 3).map (fun i => (i.zero, i.size, i.bytes)) = some (some (.int .i64 0), 1, 8) := by kernel_rfl
theorem make_ints (n : Nat) (h1 : n ≤ 16) (w : World) : (Instr.makeSlice 38 (.int .i64 (n : Int)) (.int .i64 (n : Int))).run Try.prog w = .ok (.slice (some ⟨w.heap.size, 0, none⟩) n n) (w.alloc (.cells (madeCells #[.int .i64 0] n) 3)) := by
  obtain ⟨i, hi, he⟩ := Option.map_eq_some_iff.1 info3
  simp only [Prod.mk.injEq] at he
  obtain ⟨hz, hs, hb⟩ := he
  have h := run_make (P := Try.prog) w 38 3 i _ Try.underlying38 hi hz .i64 .i64 n n (by omega) (by omega) (by rw [hb]; omega) (by omega)
  rw [hs] at h
  simp only [Nat.mul_one, Int.toNat_natCast] at h
  exact h
theorem made_zero (n k : Nat) (h : k < n) : (madeCells #[.int .i64 0] n)[k]? = some (.int .i64 0) := by
  simp [madeCells, h, Nat.mod_one]

/-- The document's clocks: a block of four cells, and two rows. -/
structure RK (w : World) (r ob tb N : Nat) (c : Cl) : Prop where
  n : c.N = N
  t : w.cell? ⟨r, 0, none⟩ = some (.int .i64 c.T)
  so : w.cell? ⟨r, 1, none⟩ = some (.slice (some ⟨ob, 0, none⟩) N N)
  sl : w.cell? ⟨r, 2, none⟩ = some (.slice (some ⟨tb, 0, none⟩) N N)
  ev : w.cell? ⟨r, 3, none⟩ = some (.bool (!c.wild))
  o : ∀ k, k < N → w.cell? ⟨ob, k, none⟩ = some (.int .i64 (c.off k))
  l : ∀ k, k < N → w.cell? ⟨tb, k, none⟩ = some (.int .i64 (c.told k))
  fr : ∀ i, w.frozen? ⟨r, i, none⟩ = false
  fo : ∀ i, w.frozen? ⟨ob, i, none⟩ = false
  fl : ∀ i, w.frozen? ⟨tb, i, none⟩ = false
  n1 : ob ≠ r
  n2 : tb ≠ r
  n3 : ob ≠ tb
def RefNew (w : World) (N : Nat) (e : Ending) (w' : World) : Prop :=
  e = .returned (.tuple #[.pointer (some ⟨w.heap.size + 1 + 1, 0, none⟩), .int .i64 0]) ∧ ∃ ob tb, RK w' (w.heap.size + 1 + 1) ob tb N (Cl.new N) ∧ w.heap.size ≤ ob ∧ w.heap.size ≤ tb ∧ Below w.heap.size w w' ∧ w'.heap.size = w.heap.size + 1 + 1 + 1
theorem made2 (w : World) (N : Nat) (a b : Nat) (hab : (a = w.heap.size ∧ b = w.heap.size + 1) ∨ (a = w.heap.size + 1 ∧ b = w.heap.size)) :
    let v := (((w.alloc (.cells (madeCells #[.int .i64 0] N) 3)).alloc (.cells (madeCells #[.int .i64 0] N) 3)).alloc (.cells #[.int .i64 1000, .slice (some ⟨a, 0, none⟩) N N, .slice (some ⟨b, 0, none⟩) N N, .bool true] 40)).drew
    RK v (w.heap.size + 1 + 1) a b N (Cl.new N) ∧ Below w.heap.size w v ∧ v.heap.size = w.heap.size + 1 + 1 + 1 := by
  intro v
  have c0 : ∀ k, k < N → v.cell? ⟨w.heap.size, k, none⟩ = some (.int .i64 0) := fun k hk => by
    show ((((w.alloc _).alloc _).alloc _).drew).cell? _ = _
    rw [World.cell?_drew, World.cell?_alloc_past _ _ _ (by simp; omega), World.cell?_alloc_past _ _ _ (by simp), World.cell?_alloc_at _ _ _ _ rfl]
    exact made_zero N k hk
  have c1 : ∀ k, k < N → v.cell? ⟨w.heap.size + 1, k, none⟩ = some (.int .i64 0) := fun k hk => by
    show ((((w.alloc _).alloc _).alloc _).drew).cell? _ = _
    rw [World.cell?_drew, World.cell?_alloc_past _ _ _ (by simp), World.cell?_alloc_at _ _ _ _ (by simp)]
    exact made_zero N k hk
  have c2 : ∀ k, v.cell? ⟨w.heap.size + 1 + 1, k, none⟩ = (#[.int .i64 1000, .slice (some ⟨a, 0, none⟩) N N, .slice (some ⟨b, 0, none⟩) N N, .bool true] : Array Value)[k]? := fun k => by
    show ((((w.alloc _).alloc _).alloc _).drew).cell? _ = _
    rw [World.cell?_drew, World.cell?_alloc_at _ _ _ _ (by simp)]
  have f0 : ∀ k, v.frozen? ⟨w.heap.size, k, none⟩ = false := fun k => by
    show ((((w.alloc _).alloc _).alloc _).drew).frozen? _ = _
    rw [World.frozen?_drew, World.frozen?_alloc_past _ _ _ (by simp; omega), World.frozen?_alloc_past _ _ _ (by simp), World.frozen?_alloc_at _ _ _ _ rfl]
  have f1 : ∀ k, v.frozen? ⟨w.heap.size + 1, k, none⟩ = false := fun k => by
    show ((((w.alloc _).alloc _).alloc _).drew).frozen? _ = _
    rw [World.frozen?_drew, World.frozen?_alloc_past _ _ _ (by simp), World.frozen?_alloc_at _ _ _ _ (by simp)]
  have f2 : ∀ k, v.frozen? ⟨w.heap.size + 1 + 1, k, none⟩ = false := fun k => by
    show ((((w.alloc _).alloc _).alloc _).drew).frozen? _ = _
    rw [World.frozen?_drew, World.frozen?_alloc_at _ _ _ _ (by simp)]
  have hb : Below w.heap.size w v := by
    have h := (((Below.refl w.heap.size w).alloc (Nat.le_refl _) (.cells (madeCells #[.int .i64 0] N) 3)).alloc (by simp) (.cells (madeCells #[.int .i64 0] N) 3)).alloc (by simp; omega) (.cells #[.int .i64 1000, .slice (some ⟨a, 0, none⟩) N N, .slice (some ⟨b, 0, none⟩) N N, .bool true] 40)
    exact ⟨h.os, h.tape, h.output, h.size, h.block⟩
  refine ⟨?_, hb, by show (((w.heap.push _).push _).push _).size = _; simp only [Array.size_push]⟩
  rcases hab with ⟨rfl, rfl⟩ | ⟨rfl, rfl⟩
  · exact ⟨rfl, by rw [c2]; rfl, by rw [c2]; rfl, by rw [c2]; rfl, by rw [c2]; rfl, c0, c1, f2, f0, f1, by omega, by omega, by omega⟩
  · exact ⟨rfl, by rw [c2]; rfl, by rw [c2]; rfl, by rw [c2]; rfl, by rw [c2]; rfl, c1, c0, f2, f1, f0, by omega, by omega, by omega⟩
set_option maxHeartbeats 1000000 in
theorem ref_new (n : Nat) (w : World) (h0 : 1 ≤ n) (h1 : n ≤ 16) :
    Calls Try.prog 8 #[.int .i64 n] w (RefNew w n) := by
  have hmk := make_ints n h1
  go_enter Try.func8, Try.ntmps8
  go_wp2
  go_region
  all_goals
    go_wp2
    go_ret2
  · obtain ⟨h1, h2, h3⟩ := made2 w n w.heap.size (w.heap.size + 1) (.inl ⟨rfl, rfl⟩)
    exact ⟨rfl, _, _, h1, by omega, by omega, h2, h3⟩
  · obtain ⟨h1, h2, h3⟩ := made2 w n (w.heap.size + 1) w.heap.size (.inr ⟨rfl, rfl⟩)
    exact ⟨rfl, _, _, h1, by omega, by omega, h2, h3⟩
set_option maxHeartbeats 400000 in
theorem ref_tick_no (r : Nat) (T n : Int) (w : World) (h0 : 1000 ≤ T) (h1 : T ≤ 1099511627776) (hc : w.cell? ⟨r, 0, none⟩ = some (.int .i64 T)) (hn : n < 0 ∨ 10000 < n ∨ 1099511627776 - T ≤ n) :
    Calls Try.prog 11 #[.pointer (some ⟨r, 0, none⟩), .int .i64 n] w fun e w' => e = .returned (.int .i64 1) ∧ w = w' := by
  by_cases a1 : n < 0
  · go_enter Try.func11, Try.ntmps11
    go_wp2
    go_ret
    exact ⟨rfl, rfl⟩
  · by_cases a2 : 10000 < n
    · go_enter Try.func11, Try.ntmps11
      go_wp2
      go_ret
      exact ⟨rfl, rfl⟩
    · have a3 : 1099511627776 - T ≤ n := by omega
      clear hn
      go_enter Try.func11, Try.ntmps11
      go_wp2
      go_ret
      exact ⟨rfl, rfl⟩
set_option maxHeartbeats 400000 in
theorem ref_tick_yes (r : Nat) (T n : Int) (w : World) (h0 : 1000 ≤ T) (h1 : T ≤ 1099511627776) (hc : w.cell? ⟨r, 0, none⟩ = some (.int .i64 T)) (hf : w.frozen? ⟨r, 0, none⟩ = false) (n0 : 0 ≤ n) (n1 : n ≤ 10000) (n2 : n < 1099511627776 - T) :
    Calls Try.prog 11 #[.pointer (some ⟨r, 0, none⟩), .int .i64 n] w fun e w' => e = .returned (.int .i64 0) ∧ w' = w.setCell ⟨r, 0, none⟩ (.int .i64 (T + n)) := by
  go_enter Try.func11, Try.ntmps11
  go_wp2
  go_ret
  exact ⟨rfl, rfl⟩
set_option maxHeartbeats 400000 in
theorem ref_now_no (r : Nat) (sa : Option Addr) (N : Nat) (i : Int) (w : World) (hk : i < 0 ∨ (N : Int) ≤ i) (hc0 : w.cell? ⟨r, 1, none⟩ = some (.slice sa N N)) :
    Calls Try.prog 15 #[.pointer (some ⟨r, 0, none⟩), .int .i64 i] w fun e w' => e = .returned (.int .i64 0) ∧ w = w' := by
  by_cases a1 : i < 0
  · go_enter Try.func15, Try.ntmps15
    go_wp2
    go_ret
    exact ⟨rfl, rfl⟩
  · have a3 : (N : Int) ≤ i := by omega
    clear hk
    go_enter Try.func15, Try.ntmps15
    go_wp2
    go_ret
    exact ⟨rfl, rfl⟩
set_option maxHeartbeats 400000 in
theorem ref_set_20 (r : Nat) (sa : Option Addr) (N : Nat) (i o : Int) (w : World) (hk : i < 0 ∨ (N : Int) ≤ i) (hc0 : w.cell? ⟨r, 1, none⟩ = some (.slice sa N N)) :
    Calls Try.prog 13 #[.pointer (some ⟨r, 0, none⟩), .int .i64 i, .int .i64 o] w fun e w' => e = .returned (.int .i64 20) ∧ w = w' := by
  by_cases a1 : i < 0
  · go_enter Try.func13, Try.ntmps13
    go_wp2
    go_ret
    exact ⟨rfl, rfl⟩
  · have a3 : (N : Int) ≤ i := by omega
    clear hk
    go_enter Try.func13, Try.ntmps13
    go_wp2
    go_ret
    exact ⟨rfl, rfl⟩
set_option maxHeartbeats 400000 in
theorem ref_set_1 (r : Nat) (sa : Option Addr) (N : Nat) (i o : Int) (w : World) (h0 : 0 ≤ i) (h1 : i < (N : Int)) (ho : o < -100000 ∨ 100000 < o) (hc0 : w.cell? ⟨r, 1, none⟩ = some (.slice sa N N)) :
    Calls Try.prog 13 #[.pointer (some ⟨r, 0, none⟩), .int .i64 i, .int .i64 o] w fun e w' => e = .returned (.int .i64 1) ∧ w = w' := by
  by_cases a1 : o < -100000
  · go_enter Try.func13, Try.ntmps13
    go_wp2
    go_ret
    exact ⟨rfl, rfl⟩
  · have a3 : 100000 < o := by omega
    clear ho
    go_enter Try.func13, Try.ntmps13
    go_wp2
    go_ret
    exact ⟨rfl, rfl⟩
set_option maxHeartbeats 400000 in
theorem ref_set_near (r ob k : Nat) (N : Nat) (o x : Int) (w : World) (h1 : k < N) (hN : N ≤ 16) (o0 : -10 ≤ o) (o1 : o ≤ 10) (hc0 : w.cell? ⟨r, 1, none⟩ = some (.slice (some ⟨ob, 0, none⟩) N N))
    (hco : w.cell? ⟨ob, k, none⟩ = some (.int .i64 x)) (hf : w.frozen? ⟨ob, k, none⟩ = false) :
    Calls Try.prog 13 #[.pointer (some ⟨r, 0, none⟩), .int .i64 k, .int .i64 o] w fun e w' => e = .returned (.int .i64 0) ∧ w' = w.setCell ⟨ob, k, none⟩ (.int .i64 o) := by
  go_enter Try.func13, Try.ntmps13
  go_wp2
  go_ret
  exact ⟨rfl, rfl⟩
set_option maxHeartbeats 400000 in
theorem ref_set_far (r ob k : Nat) (N : Nat) (o x : Int) (ev : Bool) (w : World) (h1 : k < N) (hN : N ≤ 16) (o0 : -100000 ≤ o) (o1 : o ≤ 100000) (ho : 10 < o ∨ o < -10) (hne : ob ≠ r) (hc0 : w.cell? ⟨r, 1, none⟩ = some (.slice (some ⟨ob, 0, none⟩) N N))
    (hc3 : w.cell? ⟨r, 3, none⟩ = some (.bool ev)) (hf3 : w.frozen? ⟨r, 3, none⟩ = false) (hco : w.cell? ⟨ob, k, none⟩ = some (.int .i64 x)) (hf : w.frozen? ⟨ob, k, none⟩ = false) :
    Calls Try.prog 13 #[.pointer (some ⟨r, 0, none⟩), .int .i64 k, .int .i64 o] w fun e w' => e = .returned (.int .i64 0) ∧ w' = (w.setCell ⟨ob, k, none⟩ (.int .i64 o)).setCell ⟨r, 3, none⟩ (.bool false) := by
  have g3 : (w.setCell ⟨ob, k, none⟩ (.int .i64 o)).cell? ⟨r, 3, none⟩ = some (.bool ev) := (World.cell?_setCell_other w ⟨ob, k, none⟩ ⟨r, 3, none⟩ _ (fun e => hne (congrArg Addr.block e))).trans hc3
  by_cases a2 : o < -10
  · clear ho
    go_enter Try.func13, Try.ntmps13
    go_wp2
    go_ret
    exact ⟨rfl, rfl⟩
  · have a3 : 10 < o := by omega
    clear ho
    go_enter Try.func13, Try.ntmps13
    go_wp2
    go_ret
    exact ⟨rfl, rfl⟩
set_option maxHeartbeats 400000 in
theorem ref_now_yes (r ob tb k : Nat) (N : Nat) (T o t : Int) (w : World) (hk : k < N) (hN : N ≤ 16) (h0 : 1000 ≤ T) (h1 : T ≤ 1099511627776) (ho0 : -100000 ≤ o) (ho1 : o ≤ 100000) (ht0 : 0 ≤ t) (ht1 : t ≤ 1099511627775) (hne : tb ≠ r)
    (hc : w.cell? ⟨r, 0, none⟩ = some (.int .i64 T)) (hc1 : w.cell? ⟨r, 1, none⟩ = some (.slice (some ⟨ob, 0, none⟩) N N)) (hc2 : w.cell? ⟨r, 2, none⟩ = some (.slice (some ⟨tb, 0, none⟩) N N)) (hco : w.cell? ⟨ob, k, none⟩ = some (.int .i64 o)) (hct : w.cell? ⟨tb, k, none⟩ = some (.int .i64 t)) (hf : w.frozen? ⟨tb, k, none⟩ = false) :
    Calls Try.prog 15 #[.pointer (some ⟨r, 0, none⟩), .int .i64 k] w fun e w' => e = .returned (.int .i64 (min (max 1 (max t (T + o))) 1099511627775)) ∧ ∃ n, w' = (w.setCell ⟨tb, k, none⟩ (.int .i64 (min (max 1 (max t (T + o))) 1099511627775))).drewN n := by
  have g2 : ∀ x, (w.setCell ⟨tb, k, none⟩ x).cell? ⟨r, 2, none⟩ = some (.slice (some ⟨tb, 0, none⟩) N N) := fun x => (World.cell?_setCell_other w ⟨tb, k, none⟩ ⟨r, 2, none⟩ _ (fun e => hne (congrArg Addr.block e))).trans hc2
  go_enter Try.func15, Try.ntmps15
  go_wp2
  go_region
  all_goals
    go_wp2
    go_ret
    exact ⟨rfl, 1, rfl⟩
end Go.Proofs.Ytjakidjghjhccaa
