/-
  ClockRises: the walk.
-/
import Derived.Test.YtjakidjghjhccaaActs
import Derived.LoopTactic
namespace Go.Proofs.Ytjakidjghjhccaa
open Go.RowKit
set_option maxRecDepth 100000

/-- Three ints that are what clocks told. -/
structure Lst (w : World) (b : Nat) (c : Cl) : Prop where
  l : ∀ j, j < 3 → w.cell? ⟨b, j, none⟩ = some (.int .i64 (c.told j))
  f : ∀ i, w.frozen? ⟨b, i, none⟩ = false
def RiseRel (w wr : World) (len : Nat) (i : Value) : Prop := ∃ (k : Nat) (c : Cl), k ≤ len ∧ i = .int .i64 k ∧ CK wr w.heap.size c ∧ c.OK ∧ c.N = 3 ∧ Lst wr (w.heap.size + 1) c ∧ Below w.heap.size w wr ∧ wr.heap.size = w.heap.size + 1 + 1

theorem Lst.oth {w v : World} {b b' : Nat} {c : Cl} (h : Lst w b c) (g : Oth b' w v) (hb : b ≠ b') : Lst v b c :=
  ⟨fun j hj => (g.cell hb).trans (h.l j hj), fun i => (g.fz _).trans (h.f i)⟩
theorem tell_up {c c1 : Cl} (hc : c1.OK) (ht : c1.told = c.told) (hN : c1.N = 3) {q : Nat} (hq : q < 3) : c.told q ≤ c1.nowE q ∧ 1 ≤ c1.nowE q := by
  have e : c1.nowE q = c1.tell q := by unfold Cl.nowE; rw [if_neg (by omega)]; simp
  rw [e, ← ht]
  have := hc.l2 q
  exact ⟨by simp only [Cl.tell]; omega, c1.tell1 q⟩
theorem rise_end {w w1 w2 : World} {len k q : Nat} {c c1 : Cl} (hk : k < len) (hc : c1.OK) (ht : c1.told = c.told) (hN : c1.N = 3) (hq : q < 3) (hck : CK w2 w.heap.size (c1.nowC q)) (hL : Lst w1 (w.heap.size + 1) c) (ho : Oth w.heap.size w1 w2) (hb : Below w.heap.size w w1) (hsz : w1.heap.size = w.heap.size + 1 + 1) :
    RiseRel w (w2.setCell ⟨w.heap.size + 1, q, none⟩ (.int .i64 (c1.nowE q))) len (.int .i64 ((k + 1 : Nat) : Int)) := by
  have e : c1.nowE q = c1.tell q := by unfold Cl.nowE; rw [if_neg (by omega)]; simp
  have e2 : c1.nowC q = c1.now q := by unfold Cl.nowC; rw [if_neg (by omega)]; simp
  have hne : w.heap.size ≠ w.heap.size + 1 := by omega
  have hne' : w.heap.size + 1 ≠ w.heap.size := by omega
  rw [e2] at hck
  rw [e]
  refine ⟨k + 1, c1.now q, hk, rfl, hck.oth ((Oth.refl _ _).setCell _ _) hne, hc.now, hN, ⟨fun j hj => ?_, fun i => ?_⟩, ((Oth.below ho hb (Nat.le_refl _))).setCell (by simp) _, by have := ho.size; simp only [World.setCell, Array.size_modify]; omega⟩
  · have g : ∀ j, j < 3 → w2.cell? ⟨w.heap.size + 1, j, none⟩ = some (.int .i64 (c.told j)) := fun j hj => (ho.cell hne').trans (hL.l j hj)
    by_cases ej : j = q
    · subst ej
      rw [World.cell?_setCell_same w2 ⟨w.heap.size + 1, j, none⟩ _ (g j hj)]
      simp [Cl.now]
    · rw [cell_ne (by omega), g j hj]
      simp [Cl.now, ej, ht]
  · rw [World.frozen?_setCell, ho.fz]
    exact hL.f i
theorem mod_nat (x : Int) (m : Nat) (hm : 0 < m) (hm2 : m < 100) : ∃ q : Nat, wrap64 ((IntKind.u64.wrap x).tmod m) = (q : Int) ∧ q < m := by
  have h0 : 0 ≤ IntKind.u64.wrap x := by show 0 ≤ x % 18446744073709551616; omega
  have h1 : (IntKind.u64.wrap x).tmod m = (IntKind.u64.wrap x) % m := Int.tmod_eq_emod_of_nonneg h0
  have h2 := Int.emod_nonneg (IntKind.u64.wrap x) (b := (m : Int)) (by omega)
  have h3 := Int.emod_lt_of_pos (IntKind.u64.wrap x) (b := (m : Int)) (by omega)
  refine ⟨((IntKind.u64.wrap x) % m).toNat, ?_, by omega⟩
  rw [h1]
  simp only [wrap64]
  omega
set_option maxHeartbeats 1000000 in
theorem rises_walk (la : Option Addr) (lb off len cap : Nat) (A : Nat → Int × Int × Int) (w : World) (hla : 0 < len → la = some ⟨lb, off, none⟩) (hA : Acts w lb off len A) (hm : len ≤ 9223372036854775807)
    (haw : Hid (∀ v : World, Calls Try.prog 18 #[] v fun e v' => e = .returned (.bool true) ∧ Below v.heap.size v v')) :
    Calls Try.prog 4 #[.slice la len cap] w fun e w' => e = .returned (.bool true) ∧ Below w.heap.size w w' := by
  go_enter Try.func4, Try.ntmps4
  go_wp2_with (first | (go_at_call 7; refine (new_yes 3 _ (by omega) (by omega)).mono ?_; rintro e w' ⟨rfl, rfl⟩) | (go_at_call 9; refine (num_any _ _).mono ?_; rintro e w' ⟨rfl, rfl⟩))
  go_loopw [6] (fun i wr => RiseRel w wr len i) (fun i _ => len - (intOf i).toNat)
  case atStart =>
    refine ⟨0, Cl.new 3, Nat.zero_le _, rfl, (CK.new w 3).alloc _ (by simp), Cl.OK.new (by omega) (by omega), rfl, ⟨fun j hj => ?_, fun i => ?_⟩, ((Below.refl _ _).alloc (Nat.le_refl _) _).alloc (by simp) _, by simp⟩
    · have e : w.heap.size + 1 = (w.alloc (.cells (fresh 3) 51)).heap.size := by simp
      rw [e, World.cell?_alloc_new]
      match j, hj with
      | 0, _ | 1, _ | 2, _ => rfl
      | n + 3, h => exact absurd h (by omega)
    · have e : w.heap.size + 1 = (w.alloc (.cells (fresh 3) 51)).heap.size := by simp
      rw [e, World.frozen?_alloc_new]
  case round =>
    obtain ⟨k, c, hk, rfl, hck, hok, hN, hL, hb, hsz⟩ := hrel
    have hA' := hA.below hb
    by_cases hlt : k < len
    · have hlb : lb ≠ w.heap.size := by have := hA.lt (by omega); omega
      obtain rfl := hla (by omega)
      by_cases h100 : (k : Int) < 100
      · obtain ⟨d, x, n, h1, h2, h3⟩ : ∃ d x n : Int, wr.cell? ⟨lb, off + k * 3, none⟩ = some (.int .i64 d) ∧ wr.cell? ⟨lb, off + k * 3 + 1, none⟩ = some (.int .i64 x) ∧ wr.cell? ⟨lb, off + k * 3 + 2, none⟩ = some (.int .i64 n) := ⟨_, _, _, hA'.a k hlt, hA'.i k hlt, hA'.n k hlt⟩
        have Hb := Lib.hid hb
        have Hsz := Lib.hid hsz
        have HN := Lib.hid hN
        clear hb hsz hN hla
        obtain ⟨q, hq, hq3⟩ : ∃ q : Nat, wrap64 ((IntKind.u64.wrap x).tmod 3) = (q : Int) ∧ q < 3 := mod_nat x 3 (by omega) (by omega)
        have hL' : ∀ v, Oth w.heap.size wr v → v.cell? ⟨w.heap.size + 1, q, none⟩ = some (.int .i64 (c.told q)) ∧ v.frozen? ⟨w.heap.size + 1, q, none⟩ = false := fun v ho => ⟨(ho.cell (by simp)).trans (hL.l q hq3), (ho.fz _).trans (hL.f q)⟩
        have HL := Lib.hid hL'
        clear hL'
        have told_tick : (c.tickC n).told = c.told ∧ (c.tickC n).N = 3 := ⟨c.tickC_told n, (c.tickC_N n).trans HN.out⟩
        have told_set : (c.setC q n).told = c.told ∧ (c.setC q n).N = 3 := ⟨c.setC_told q n, (c.setC_N q n).trans HN.out⟩
        have HT := Lib.hid told_tick
        have HS := Lib.hid told_set
        clear told_tick told_set
        by_cases hd0 : d = 0
        · subst hd0
          go_wp2_with (first
            | (go_at_call 10
               with_reducible refine (tick_did hck hok n).mono ?_
               rintro e w1 ⟨rfl, hck1, ho1⟩
               have g1 : w1.cell? ⟨lb, off + k * 3, none⟩ = some (.int .i64 0) := (ho1.cell (a := ⟨lb, off + k * 3, none⟩) hlb).trans h1)
            | (go_at_call 14
               with_reducible refine (now_did hck1 (hok.tickC n) q).mono ?_
               rintro e w2 ⟨rfl, hck2, ho2⟩
               obtain ⟨g2, g3⟩ := HL.out w2 (ho1.trans ho2)
               obtain ⟨i1, i2⟩ := tell_up (c := c) (hok.tickC n) HT.out.1 HT.out.2 hq3))
          refine ⟨?_, by simp [intOf]; omega⟩
          have h := rise_end hlt (hok.tickC n) HT.out.1 HT.out.2 hq3 hck2 (hL.oth ho1 (by omega)) ho2 (Oth.below ho1 Hb.out (Nat.le_refl _)) (ho1.size.trans Hsz.out)
          rwa [Int.natCast_succ] at h
        · by_cases hd1 : d = 1
          · subst hd1
            go_wp2_with (first
              | (go_at_call 12
                 with_reducible refine (set_did hck hok q n).mono ?_
                 rintro e w1 ⟨rfl, hck1, ho1⟩)
              | (go_at_call 14
                 with_reducible refine (now_did hck1 (hok.setC q n) q).mono ?_
                 rintro e w2 ⟨rfl, hck2, ho2⟩
                 obtain ⟨g2, g3⟩ := HL.out w2 (ho1.trans ho2)
                 obtain ⟨i1, i2⟩ := tell_up (c := c) (hok.setC q n) HS.out.1 HS.out.2 hq3))
            refine ⟨?_, by simp [intOf]; omega⟩
            have h := rise_end hlt (hok.setC q n) HS.out.1 HS.out.2 hq3 hck2 (hL.oth ho1 (by omega)) ho2 (Oth.below ho1 Hb.out (Nat.le_refl _)) (ho1.size.trans Hsz.out)
            rwa [Int.natCast_succ] at h
          · go_wp2_with (
                (go_at_call 14
                 with_reducible refine (now_did hck hok q).mono ?_
                 rintro e w2 ⟨rfl, hck2, ho2⟩
                 obtain ⟨g2, g3⟩ := HL.out w2 ho2
                 obtain ⟨i1, i2⟩ := tell_up (c := c) hok rfl HN.out hq3))
            refine ⟨?_, by simp [intOf]; omega⟩
            have h := rise_end hlt hok rfl HN.out hq3 hck2 hL ho2 Hb.out Hsz.out
            rwa [Int.natCast_succ] at h
      · have Hb := Lib.hid hb
        clear hb hsz hN hla
        go_wp2_with (go_at_call 18; refine (haw.out _).mono ?_; rintro e w3 ⟨rfl, hb3⟩)
        go_ret
        exact ⟨rfl, Hb.out.trans (hb3.mono Hb.out.size)⟩
    · have Hb := Lib.hid hb
      clear hb hsz hN hla
      go_wp2_with (go_at_call 18; refine (haw.out _).mono ?_; rintro e w3 ⟨rfl, hb3⟩)
      go_ret
      exact ⟨rfl, Hb.out.trans (hb3.mono Hb.out.size)⟩
end Go.Proofs.Ytjakidjghjhccaa
