/-
  ClockRuns: the walk.
-/
import Derived.Test.YtjakidjghjhccaaRef2
import Derived.Deep.QuietTactic
import Derived.BigQuiet
import Derived.LoopTactic
import Derived.Deep.RegionHeld3
namespace Go.Proofs.Ytjakidjghjhccaa
open Go.RowKit
set_option maxRecDepth 100000

set_option maxHeartbeats 1000000 in
theorem runs_no (v : Value) (la : Option Addr) (n : Int) (len cap : Nat) (w : World) (hn : n < 1 ∨ 16 < n) (hv : v = .slice la len cap)
    (haw : Hid (∀ v : World, Calls Try.prog 18 #[] v fun e v' => e = .returned (.bool true) ∧ Below v.heap.size v v')) :
    Calls Try.prog 3 #[.int .i64 n, .slice la len cap] w fun e w' => e = .returned (.bool true) ∧ Below w.heap.size w w' := by
  have HN := Lib.hid hn
  clear hn
  go_enter Try.func3, Try.ntmps3
  go_wp2_with (first
    | (go_at_call 7; refine (new_no n _ HN.out).mono ?_; rintro e w' ⟨rfl, rfl⟩)
    | (go_at_call 8; refine (ref_new_no n _ HN.out).mono ?_; rintro e w' ⟨rfl, rfl⟩)
    | (go_at_call 9; refine (num_any _ _).mono ?_; rintro e w' ⟨rfl, rfl⟩))
  go_loopw [9] (fun i wr => i = .int .i64 0 ∧ wr = w) (fun i _ => len - (intOf i).toNat)
  case atStart => exact ⟨rfl, rfl⟩
  case round =>
    obtain ⟨rfl, rfl⟩ := hrel
    go_wp2_with (go_at_call 18; refine (haw.out _).mono ?_; rintro e w3 ⟨rfl, hb3⟩)
    go_ret
    exact ⟨rfl, hb3⟩

theorem fair_is {w : World} {b : Nat} {c : Cl} (h : CK w b c) {x : Bool} (hm : c.wild = x) : Calls Try.prog 17 #[.pointer (some ⟨b, 0, none⟩)] w fun e w' => e = .returned (.bool (!x)) ∧ w = w' := by
  subst hm
  exact fair_any _ _ _ h.wd
theorem true_is {w : World} {b : Nat} {c : Cl} (h : CK w b c) {t : Int} (hm : c.T = t) : Calls Try.prog 16 #[.pointer (some ⟨b, 0, none⟩)] w fun e w' => e = .returned (.int .i64 t) ∧ w = w' := by
  subst hm
  exact true_any _ _ _ h.t
theorem CK.drew {w : World} {b : Nat} {c : Cl} (h : CK w b c) : CK w.drew b c := ⟨h.n, h.t, h.wd, h.o, h.l, h.f⟩
theorem RK.drew {w : World} {r ob tb N : Nat} {c : Cl} (h : RK w r ob tb N c) : RK w.drew r ob tb N c := ⟨h.n, h.t, h.so, h.sl, h.ev, h.o, h.l, h.fr, h.fo, h.fl, h.n1, h.n2, h.n3⟩
def RunRel (w wr : World) (r ob tb N : Nat) (len : Nat) (i : Value) : Prop := ∃ (k : Nat) (c : Cl), k ≤ len ∧ i = .int .i64 k ∧ CK wr w.heap.size c ∧ RK wr r ob tb N c ∧ c.OK ∧ Below w.heap.size w wr ∧ w.heap.size + 1 + 1 + 1 + 1 ≤ wr.heap.size
/-- A round's world: clocks, the document's, and a block for the act. -/
structure Rnd (w wa : World) (r ob tb N D : Nat) (c : Cl) (d x n : Int) : Prop where
  ck : CK wa w.heap.size c
  rk : RK wa r ob tb N c
  c0 : wa.cell? ⟨D, 0, none⟩ = some (.int .i64 d)
  c1 : wa.cell? ⟨D, 1, none⟩ = some (.int .i64 x)
  c2 : wa.cell? ⟨D, 2, none⟩ = some (.int .i64 n)
  bl : Below w.heap.size w wa
  sz : w.heap.size + 1 + 1 + 1 + 1 ≤ wa.heap.size
  d0 : D ≠ w.heap.size
  d1 : D ≠ r
  d2 : D ≠ ob
  d3 : D ≠ tb
  r1 : w.heap.size < r
  r2 : w.heap.size < ob
  r3 : w.heap.size < tb
theorem Rnd.drew {w wa : World} {r ob tb N D : Nat} {c : Cl} {d x n : Int} (h : Rnd w wa r ob tb N D c d x n) : Rnd w wa.drew r ob tb N D c d x n :=
  ⟨h.ck.drew, h.rk.drew, h.c0, h.c1, h.c2, ⟨h.bl.os, h.bl.tape, h.bl.output, h.bl.size, h.bl.block⟩, h.sz, h.d0, h.d1, h.d2, h.d3, h.r1, h.r2, h.r3⟩
/-- One of the clocks' methods, then the document's. -/
theorem Rnd.mid {w wa w1 : World} {r ob tb N D : Nat} {c c' : Cl} {d x n : Int} (h : Rnd w wa r ob tb N D c d x n) (ho : Oth w.heap.size wa w1) :
    RK w1 r ob tb N c ∧ w1.cell? ⟨D, 0, none⟩ = some (.int .i64 d) ∧ w1.cell? ⟨D, 1, none⟩ = some (.int .i64 x) ∧ w1.cell? ⟨D, 2, none⟩ = some (.int .i64 n) :=
  ⟨h.rk.oth ho (Nat.ne_of_gt h.r1) (Nat.ne_of_gt h.r2) (Nat.ne_of_gt h.r3), (ho.cell h.d0).trans h.c0, (ho.cell h.d0).trans h.c1, (ho.cell h.d0).trans h.c2⟩
theorem Rnd.fin {w wa w1 w2 : World} {r ob tb N D len k : Nat} {c c' : Cl} {d x n : Int} (h : Rnd w wa r ob tb N D c d x n) (hck : CK w1 w.heap.size c') (ho : Oth w.heap.size wa w1) (hrk : RK w2 r ob tb N c') (ho2 : Oth3 r ob tb w1 w2) (hok : c'.OK) (hk : k < len) :
    RunRel w w2 r ob tb N len (.int .i64 ((k : Int) + 1)) :=
  ⟨k + 1, c', hk, by rw [Int.natCast_succ], hck.oth3 ho2 (Nat.ne_of_lt h.r1) (Nat.ne_of_lt h.r2) (Nat.ne_of_lt h.r3), hrk, hok,
    ho2.below (ho.below h.bl (Nat.le_refl _)) (Nat.le_of_lt h.r1) (Nat.le_of_lt h.r2) (Nat.le_of_lt h.r3), by have := h.sz; have := ho.size; have := ho2.size; omega⟩
theorem Rnd.cells2 {w wa w1 w2 : World} {r ob tb N D : Nat} {c : Cl} {d x n : Int} (h : Rnd w wa r ob tb N D c d x n) (ho : Oth w.heap.size wa w1) (ho2 : Oth3 r ob tb w1 w2) :
    w2.cell? ⟨D, 0, none⟩ = some (.int .i64 d) ∧ w2.cell? ⟨D, 1, none⟩ = some (.int .i64 x) ∧ w2.cell? ⟨D, 2, none⟩ = some (.int .i64 n) :=
  ⟨(ho2.cell h.d1 h.d2 h.d3).trans ((ho.cell h.d0).trans h.c0), (ho2.cell h.d1 h.d2 h.d3).trans ((ho.cell h.d0).trans h.c1), (ho2.cell h.d1 h.d2 h.d3).trans ((ho.cell h.d0).trans h.c2)⟩
theorem RK.lt {w : World} {r ob tb N : Nat} {c : Cl} (h : RK w r ob tb N c) (hN : 1 ≤ N) : r < w.heap.size ∧ ob < w.heap.size ∧ tb < w.heap.size :=
  ⟨World.block_lt_of_cell? w ⟨r, 0, none⟩ h.t, World.block_lt_of_cell? w ⟨ob, 0, none⟩ (h.o 0 (by omega)), World.block_lt_of_cell? w ⟨tb, 0, none⟩ (h.l 0 (by omega))⟩
theorem Rnd.mk' {w wr : World} {r ob tb N : Nat} {c : Cl} (hN : 1 ≤ N) (hck : CK wr w.heap.size c) (hrk : RK wr r ob tb N c) (hb : Below w.heap.size w wr) (hsz : w.heap.size + 1 + 1 + 1 + 1 ≤ wr.heap.size) (r1 : w.heap.size < r) (r2 : w.heap.size < ob) (r3 : w.heap.size < tb) (d x n : Int) :
    Rnd w (wr.alloc (.cells #[.int .i64 d, .int .i64 x, .int .i64 n] 32)) r ob tb N wr.heap.size c d x n := by
  obtain ⟨l1, l2, l3⟩ := hrk.lt hN
  exact ⟨hck.alloc _ (by omega), hrk.alloc _ l1 l2 l3, by simp, by simp, by simp, hb.alloc (by have := hb.size; omega) _, by simp; omega, by omega, by omega, by omega, by omega, r1, r2, r3⟩
set_option maxHeartbeats 1000000 in
theorem runs_yes (la : Option Addr) (lb off len cap N : Nat) (A : Nat → Int × Int × Int) (w : World) (hN0 : 1 ≤ N) (hN1 : N ≤ 16) (hla : 0 < len → la = some ⟨lb, off, none⟩) (hA : Acts w lb off len A) (hm : len ≤ 9223372036854775807)
    (haw : Hid (∀ v : World, Calls Try.prog 18 #[] v fun e v' => e = .returned (.bool true) ∧ Below v.heap.size v v')) :
    Calls Try.prog 3 #[.int .i64 N, .slice la len cap] w fun e w' => e = .returned (.bool true) ∧ Below w.heap.size w w' := by
  go_enter Try.func3, Try.ntmps3
  go_wp2_with (first
    | (go_at_call 7; refine (new_yes N _ (by omega) (by omega)).mono ?_; rintro e w' ⟨rfl, rfl⟩)
    | (go_at_call 8; refine (ref_new N _ hN0 hN1).mono ?_; rintro e w2 ⟨rfl, ob, tb, hrk, hob, htb, hb2, hs2⟩; have Hob := Lib.hid hob; have Htb := Lib.hid htb; have Hb2 := Lib.hid hb2; have Hs2 := Lib.hid hs2; clear hob htb hb2 hs2)
    | (go_at_call 9; refine (num_any _ _).mono ?_; rintro e w' ⟨rfl, rfl⟩))
  go_loopw [9] (fun i wr => RunRel w wr (w.heap.size + 1 + 1 + 1) ob tb N len i) (fun i _ => len - (intOf i).toNat)
  case atStart =>
    have e1 : (w.alloc (.cells (fresh N) 51)).heap.size = w.heap.size + 1 := by simp
    have hb := Hb2.out
    have hs := Hs2.out
    rw [e1] at hrk hb hs
    have h0 : Below w.heap.size w w2 := (((Below.refl _ _).alloc (Nat.le_refl _) _).trans (hb.mono (by omega)))
    have hk := (CK.new w N)
    refine ⟨0, Cl.new N, Nat.zero_le _, rfl, ?_, hrk, Cl.OK.new (by omega) (by omega), h0, by omega⟩
    have hc : ∀ i, w2.cell? ⟨w.heap.size, i, none⟩ = (w.alloc (.cells (fresh N) 51)).cell? ⟨w.heap.size, i, none⟩ := fun i => hb.cell (p := ⟨w.heap.size, i, none⟩) (by simp)
    have hf : ∀ i, w2.frozen? ⟨w.heap.size, i, none⟩ = (w.alloc (.cells (fresh N) 51)).frozen? ⟨w.heap.size, i, none⟩ := fun i => hb.frozen (p := ⟨w.heap.size, i, none⟩) (by simp)
    exact ⟨(hc _).trans hk.n, (hc _).trans hk.t, (hc _).trans hk.wd, fun k hk' => (hc _).trans (hk.o k hk'), fun k hk' => (hc _).trans (hk.l k hk'), fun i => (hf i).trans (hk.f i)⟩
  case round =>
    obtain ⟨k, c, hk, rfl, hck, hrk', hok, hb, hsz⟩ := hrel
    have hA' := hA.below hb
    by_cases hlt : k < len
    · have hlb : lb < w.heap.size := hA.lt (by omega)
      obtain rfl := hla (by omega)
      by_cases h100 : (k : Int) < 100
      · obtain ⟨d, x, n, h1, h2, h3⟩ : ∃ d x n : Int, wr.cell? ⟨lb, off + k * 3, none⟩ = some (.int .i64 d) ∧ wr.cell? ⟨lb, off + k * 3 + 1, none⟩ = some (.int .i64 x) ∧ wr.cell? ⟨lb, off + k * 3 + 2, none⟩ = some (.int .i64 n) := ⟨_, _, _, hA'.a k hlt, hA'.i k hlt, hA'.n k hlt⟩
        have Hb := Lib.hid hb
        clear hb hla
        have hR := Rnd.mk' hN0 hck hrk' Hb.out hsz (by omega) (by have := Hob.out; simp at this; omega) (by have := Htb.out; simp at this; omega) d x n
        have Hsz := Lib.hid hsz
        clear hsz
        by_cases hd0 : d = 0
        · subst hd0
          go_wp2_with fail
          obtain ⟨wa, hwa⟩ : ∃ wa, wa = wr.alloc (.cells #[.int .i64 0, .int .i64 x, .int .i64 n] 32) := ⟨_, rfl⟩
          rw [← hwa] at hR ⊢
          clear hwa
          have hD := hR.drew
          have s0 := hD.c2
          go_region_held3 (fun w' => w'.cell? ⟨wr.heap.size, 2, none⟩ = some (.int .i64 n)) (first | assumption | go_keep | (go_split_ands; refine ⟨?_, ?_⟩ <;> assumption))
            (first
              | (go_at_call 10; (with_reducible refine (tick_did hD.ck hok n).mono ?_); rintro e w1 ⟨rfl, hck1, ho1⟩; obtain ⟨hrk1, _, _, s1⟩ := hD.mid (c' := c) ho1)
              | (go_at_call 9; (with_reducible refine (num_any _ _).mono ?_); rintro e w' ⟨rfl, rfl⟩)
              | (go_at_call 11; (with_reducible refine (ref_tick_did hrk1 hok n).mono ?_); rintro e w2 ⟨rfl, hrk2, ho2⟩; obtain ⟨_, _, s2⟩ := hD.cells2 ho1 ho2))
          all_goals
            go_wp2
            exact ⟨hD.fin hck1 ho1 hrk2 ho2 (hok.tickC n) hlt, by simp [intOf]; omega⟩
        · by_cases hd1 : d = 1
          · subst hd1
            go_wp2_with fail
            obtain ⟨wa, hwa⟩ : ∃ wa, wa = wr.alloc (.cells #[.int .i64 1, .int .i64 x, .int .i64 n] 32) := ⟨_, rfl⟩
            rw [← hwa] at hR ⊢
            clear hwa
            have hD := hR.drew
            have s0 := hD.c2
            have s0' := hD.c1
            go_region_held3 (fun w' => w'.cell? ⟨wr.heap.size, 1, none⟩ = some (.int .i64 x) ∧ w'.cell? ⟨wr.heap.size, 2, none⟩ = some (.int .i64 n)) (first | assumption | go_keep | (go_split_ands; refine ⟨?_, ?_⟩ <;> assumption))
              (first
                | (go_at_call 12; (with_reducible refine (set_did hD.ck hok x n).mono ?_); rintro e w1 ⟨rfl, hck1, ho1⟩; obtain ⟨hrk1, _, s1', s1⟩ := hD.mid (c' := c) ho1)
                | (go_at_call 9; (with_reducible refine (num_any _ _).mono ?_); rintro e w' ⟨rfl, rfl⟩)
                | (go_at_call 13; (with_reducible refine (ref_set_did hrk1 hok x n).mono ?_); rintro e w2 ⟨rfl, hrk2, ho2⟩; obtain ⟨_, s2', s2⟩ := hD.cells2 ho1 ho2))
            all_goals
              go_wp2
              exact ⟨hD.fin hck1 ho1 hrk2 ho2 (hok.setC x n) hlt, by simp [intOf]; omega⟩
          · by_cases hd2 : d = 2
            · subst hd2
              go_wp2_with fail
              obtain ⟨wa, hwa⟩ : ∃ wa, wa = wr.alloc (.cells #[.int .i64 2, .int .i64 x, .int .i64 n] 32) := ⟨_, rfl⟩
              rw [← hwa] at hR ⊢
              clear hwa
              have hD := hR.drew
              have s0' := hD.c1
              go_region_held3 (fun w' => w'.cell? ⟨wr.heap.size, 1, none⟩ = some (.int .i64 x)) (first | assumption | go_keep | (go_split_ands; refine ⟨?_, ?_⟩ <;> assumption))
                (first
                  | (go_at_call 14; (with_reducible refine (now_did hD.ck hok x).mono ?_); rintro e w1 ⟨rfl, hck1, ho1⟩; obtain ⟨hrk1, _, s1', s1⟩ := hD.mid (c' := c) ho1)
                  | (go_at_call 15; (with_reducible refine (ref_now_did hrk1 hok x).mono ?_); rintro e w2 ⟨rfl, hrk2, ho2⟩; obtain ⟨_, s2', s2⟩ := hD.cells2 ho1 ho2))
              all_goals
                go_wp2
                exact ⟨hD.fin hck1 ho1 hrk2 ho2 (hok.nowC x) hlt, by simp [intOf]; omega⟩
            · obtain ⟨t, ht⟩ : ∃ t, c.T = t := ⟨_, rfl⟩
              have HT := Lib.hid ht
              clear ht
              cases hwl : c.wild
              · have HW := Lib.hid hwl
                clear hwl
                go_wp2_with fail
                obtain ⟨wa, hwa⟩ : ∃ wa, wa = wr.alloc (.cells #[.int .i64 d, .int .i64 x, .int .i64 n] 32) := ⟨_, rfl⟩
                rw [← hwa] at hR ⊢
                clear hwa
                have hD := hR.drew
                have s0 : wa.drew.cell? ⟨w.heap.size + 1 + 1 + 1, 0, none⟩ = some (.int .i64 t) := by have := hD.rk.t; rw [HT.out] at this; exact this
                have s3 : wa.drew.cell? ⟨w.heap.size + 1 + 1 + 1, 3, none⟩ = some (.bool true) := by have := hD.rk.ev; rw [HW.out] at this; exact this
                go_region_held3 (fun w' => w'.cell? ⟨w.heap.size + 1 + 1 + 1, 0, none⟩ = some (.int .i64 t) ∧ w'.cell? ⟨w.heap.size + 1 + 1 + 1, 3, none⟩ = some (.bool true)) (first | assumption | go_keep | (go_split_ands; refine ⟨?_, ?_⟩ <;> assumption))
                  (first
                    | (go_at_call 16; (with_reducible refine (true_is hD.ck HT.out).mono ?_); rintro e w' ⟨rfl, rfl⟩)
                    | (go_at_call 17; (with_reducible refine (fair_is hD.ck HW.out).mono ?_); rintro e w' ⟨rfl, rfl⟩))
                all_goals
                  go_wp2
                  exact ⟨hD.fin hD.ck (Oth.refl _ _) hD.rk (Oth3.refl _ _ _ _) hok hlt, by simp [intOf]; omega⟩
              · have HW := Lib.hid hwl
                clear hwl
                go_wp2_with fail
                obtain ⟨wa, hwa⟩ : ∃ wa, wa = wr.alloc (.cells #[.int .i64 d, .int .i64 x, .int .i64 n] 32) := ⟨_, rfl⟩
                rw [← hwa] at hR ⊢
                clear hwa
                have hD := hR.drew
                have s0 : wa.drew.cell? ⟨w.heap.size + 1 + 1 + 1, 0, none⟩ = some (.int .i64 t) := by have := hD.rk.t; rw [HT.out] at this; exact this
                have s3 : wa.drew.cell? ⟨w.heap.size + 1 + 1 + 1, 3, none⟩ = some (.bool false) := by have := hD.rk.ev; rw [HW.out] at this; exact this
                go_region_held3 (fun w' => w'.cell? ⟨w.heap.size + 1 + 1 + 1, 0, none⟩ = some (.int .i64 t) ∧ w'.cell? ⟨w.heap.size + 1 + 1 + 1, 3, none⟩ = some (.bool false)) (first | assumption | go_keep | (go_split_ands; refine ⟨?_, ?_⟩ <;> assumption))
                  (first
                    | (go_at_call 16; (with_reducible refine (true_is hD.ck HT.out).mono ?_); rintro e w' ⟨rfl, rfl⟩)
                    | (go_at_call 17; (with_reducible refine (fair_is hD.ck HW.out).mono ?_); rintro e w' ⟨rfl, rfl⟩))
                all_goals
                  go_wp2
                  exact ⟨hD.fin hD.ck (Oth.refl _ _) hD.rk (Oth3.refl _ _ _ _) hok hlt, by simp [intOf]; omega⟩
      · have Hb := Lib.hid hb
        clear hb hla hsz
        go_wp2_with (go_at_call 18; refine (haw.out _).mono ?_; rintro e w3 ⟨rfl, hb3⟩)
        go_ret
        exact ⟨rfl, Hb.out.trans (hb3.mono Hb.out.size)⟩
    · have Hb := Lib.hid hb
      clear hb hla hsz
      go_wp2_with (go_at_call 18; refine (haw.out _).mono ?_; rintro e w3 ⟨rfl, hb3⟩)
      go_ret
      exact ⟨rfl, Hb.out.trans (hb3.mono Hb.out.size)⟩
end Go.Proofs.Ytjakidjghjhccaa
