/-
  ClockFair: the walk.
-/
import Derived.Test.YtjakidjghjhccaaActs
import Derived.LoopTactic
namespace Go.Proofs.Ytjakidjghjhccaa
open Go.RowKit
set_option maxRecDepth 100000

/-- As long as none was put off too far, each is near. -/
structure Near (c : Cl) : Prop where
  o : c.wild = false → ∀ k, -10 ≤ c.off k ∧ c.off k ≤ 10
  l : c.wild = false → ∀ k, c.told k ≤ c.T + 10
def FairRel (w wr : World) (len : Nat) (f i : Value) : Prop := ∃ (k : Nat) (c : Cl), k ≤ len ∧ i = .int .i64 k ∧ f = .bool (!c.wild) ∧ CK wr w.heap.size c ∧ c.OK ∧ c.N = 2 ∧ Near c ∧ Below w.heap.size w wr
theorem Near.new (n : Int) : Near (Cl.new n) := ⟨fun _ _ => by simp [Cl.new], fun _ _ => by simp [Cl.new]⟩
theorem Near.tickC {c : Cl} (h : Near c) (n : Int) : Near (c.tickC n) := by
  unfold Cl.tickC
  split
  · exact h
  · exact ⟨h.o, fun hw k => by have := h.l hw k; simp only [Cl.tick]; omega⟩
theorem Near.setC {c : Cl} (h : Near c) (i o : Int) : Near (c.setC i o) := by
  unfold Cl.setC
  split
  · exact h
  · split
    · exact h
    · refine ⟨fun hw k => ?_, fun hw k => ?_⟩
      · simp only [Cl.set, Bool.or_eq_false_iff, decide_eq_false_iff_not] at hw
        have := h.o hw.1 k
        simp only [Cl.set]
        split <;> omega
      · simp only [Cl.set, Bool.or_eq_false_iff, decide_eq_false_iff_not] at hw
        exact h.l hw.1 k
theorem Near.tell {c : Cl} (h : Near c) (hc : c.OK) (hw : c.wild = false) (k : Nat) : c.T - 10 ≤ c.tell k ∧ c.tell k ≤ c.T + 10 := by
  have := h.o hw k
  have := h.l hw k
  have := hc.t1
  have := hc.t2
  simp only [Cl.tell]
  omega
theorem Near.nowC {c : Cl} (h : Near c) (hc : c.OK) (i : Int) : Near (c.nowC i) := by
  unfold Cl.nowC
  split
  · exact h
  · refine ⟨h.o, fun hw k => ?_⟩
    have := h.l hw k
    have := (h.tell hc hw i.toNat).2
    simp only [Cl.now]
    split <;> omega
theorem Cl.nowC_T (c : Cl) (i : Int) : (c.nowC i).T = c.T := by unfold Cl.nowC; split <;> rfl
theorem Cl.nowC_wild (c : Cl) (i : Int) : (c.nowC i).wild = c.wild := by unfold Cl.nowC; split <;> rfl
theorem Cl.tickC_wild (c : Cl) (n : Int) : (c.tickC n).wild = c.wild := by unfold Cl.tickC; split <;> rfl
theorem near_now {c : Cl} (h : Near c) (hc : c.OK) (hN : c.N = 2) {q : Nat} (hq : q < 2) (hw : c.wild = false) : c.T - 10 ≤ c.nowE q ∧ c.nowE q ≤ c.T + 10 := by
  have e : c.nowE q = c.tell q := by unfold Cl.nowE; rw [if_neg (by omega)]; simp
  rw [e]
  exact h.tell hc hw q
theorem mod_nat2 (x : Int) : ∃ q : Nat, wrap64 ((IntKind.u64.wrap x).tmod 2) = (q : Int) ∧ q < 2 := by
  have h0 : 0 ≤ IntKind.u64.wrap x := by show 0 ≤ x % 18446744073709551616; omega
  have h1 : (IntKind.u64.wrap x).tmod 2 = (IntKind.u64.wrap x) % 2 := Int.tmod_eq_emod_of_nonneg h0
  refine ⟨((IntKind.u64.wrap x) % 2).toNat, ?_, by omega⟩
  rw [h1]
  simp only [wrap64]
  omega
/-- Set at a clock that there is: what it answers, and whether it makes them wild. -/
theorem set_in {c : Cl} (hN : c.N = 2) {q : Nat} (hq : q < 2) (n : Int) : (c.setE q n = if n < -100000 ∨ 100000 < n then 1 else 0) ∧ ((c.setC q n).wild = if n < -100000 ∨ 100000 < n then c.wild else (c.wild || (decide (10 < n) || decide (n < -10)))) := by
  refine ⟨?_, ?_⟩
  · unfold Cl.setE; rw [if_neg (by omega)]
  · unfold Cl.setC; rw [if_neg (by omega)]; split <;> rfl

theorem now_is {w : World} {b : Nat} {c : Cl} (h : CK w b c) (hk : c.OK) {i m : Int} (hm : c.nowE i = m) : Calls Try.prog 14 #[.pointer (some ⟨b, 0, none⟩), .int .i64 i] w (Did b w m (c.nowC i)) := by
  subst hm
  exact now_did h hk i
theorem set_is {w : World} {b : Nat} {c : Cl} (h : CK w b c) (hk : c.OK) {i o m : Int} (hm : c.setE i o = m) : Calls Try.prog 12 #[.pointer (some ⟨b, 0, none⟩), .int .i64 i, .int .i64 o] w (Did b w m (c.setC i o)) := by
  subst hm
  exact set_did h hk i o
theorem fair_is {w : World} {b : Nat} {c : Cl} (h : CK w b c) {x : Bool} (hm : c.wild = x) : Calls Try.prog 17 #[.pointer (some ⟨b, 0, none⟩)] w fun e w' => e = .returned (.bool (!x)) ∧ w = w' := by
  subst hm
  exact fair_any _ _ _ h.wd
theorem true_is {w : World} {b : Nat} {c : Cl} (h : CK w b c) {t : Int} (hm : c.T = t) : Calls Try.prog 16 #[.pointer (some ⟨b, 0, none⟩)] w fun e w' => e = .returned (.int .i64 t) ∧ w = w' := by
  subst hm
  exact true_any _ _ _ h.t
theorem fair_end {w w1 w2 : World} {len k q : Nat} {c1 : Cl} {f : Bool} (hk : k < len) (hc : c1.OK) (hn : Near c1) (hN : c1.N = 2) (hw : c1.wild = !f) (hck : CK w2 w.heap.size (c1.nowC q)) (ho : Oth w.heap.size w1 w2) (hb : Below w.heap.size w w1) :
    FairRel w w2 len (.bool f) (.int .i64 ((k : Int) + 1)) :=
  ⟨k + 1, c1.nowC q, hk, by rw [Int.natCast_succ], by rw [Cl.nowC_wild, hw, Bool.not_not], hck, hc.nowC _, (Cl.nowC_N _ _).trans hN, hn.nowC hc _, ho.below hb (Nat.le_refl _)⟩
set_option maxHeartbeats 1000000 in
theorem fair_walk (la : Option Addr) (lb off len cap : Nat) (A : Nat → Int × Int × Int) (w : World) (hla : 0 < len → la = some ⟨lb, off, none⟩) (hA : Acts w lb off len A) (hm : len ≤ 9223372036854775807)
    (haw : Hid (∀ v : World, Calls Try.prog 18 #[] v fun e v' => e = .returned (.bool true) ∧ Below v.heap.size v v')) :
    Calls Try.prog 5 #[.slice la len cap] w fun e w' => e = .returned (.bool true) ∧ Below w.heap.size w w' := by
  go_enter Try.func5, Try.ntmps5
  go_wp2_with (first | (go_at_call 7; refine (new_yes 2 _ (by omega) (by omega)).mono ?_; rintro e w' ⟨rfl, rfl⟩) | (go_at_call 9; refine (num_any _ _).mono ?_; rintro e w' ⟨rfl, rfl⟩))
  go_loopw [5, 6] (fun f i wr => FairRel w wr len f i) (fun _ i _ => len - (intOf i).toNat)
  case atStart =>
    exact ⟨0, Cl.new 2, Nat.zero_le _, rfl, rfl, CK.new w 2, Cl.OK.new (by omega) (by omega), rfl, Near.new 2, (Below.refl _ _).alloc (Nat.le_refl _) _⟩
  case round =>
    obtain ⟨k, c, hk, rfl, rfl, hck, hok, hN, hnr, hb⟩ := hrel
    have hA' := hA.below hb
    by_cases hlt : k < len
    · have hlb : lb ≠ w.heap.size := by have := hA.lt (by omega); omega
      obtain rfl := hla (by omega)
      by_cases h100 : (k : Int) < 100
      · obtain ⟨d, x, n, h1, h2, h3⟩ : ∃ d x n : Int, wr.cell? ⟨lb, off + k * 3, none⟩ = some (.int .i64 d) ∧ wr.cell? ⟨lb, off + k * 3 + 1, none⟩ = some (.int .i64 x) ∧ wr.cell? ⟨lb, off + k * 3 + 2, none⟩ = some (.int .i64 n) := ⟨_, _, _, hA'.a k hlt, hA'.i k hlt, hA'.n k hlt⟩
        have Hb := Lib.hid hb
        have HN := Lib.hid hN
        clear hb hN hla
        obtain ⟨q, hq, hq3⟩ : ∃ q : Nat, wrap64 ((IntKind.u64.wrap x).tmod 2) = (q : Int) ∧ q < 2 := mod_nat2 x
        by_cases hd0 : d = 0
        · subst hd0
          have hok1 := hok.tickC n
          have hn1 := hnr.tickC n
          have hN1 := (c.tickC_N n).trans HN.out
          cases hwl : c.wild
          · have hw1 := (c.tickC_wild n).trans hwl
            obtain ⟨m, he⟩ : ∃ m, (c.tickC n).nowE q = m := ⟨_, rfl⟩
            obtain ⟨t, ht⟩ : ∃ t, (c.tickC n).T = t := ⟨_, rfl⟩
            obtain ⟨b1, b2⟩ : t - 10 ≤ m ∧ m ≤ t + 10 := by rw [← he, ← ht]; exact near_now hn1 hok1 hN1 hq3 hw1
            have b3 : 1000 ≤ t := by rw [← ht]; exact hok1.t1
            have b4 : t ≤ 1099511627775 := by rw [← ht]; exact hok1.t2
            have HE := Lib.hid he
            have HTt := Lib.hid ((Cl.nowC_T _ q).trans ht)
            have HW1 := Lib.hid hw1
            have HW2 := Lib.hid ((Cl.nowC_wild _ q).trans hw1)
            have HN1 := Lib.hid hN1
            clear he ht hw1 hN1
            go_wp2_with (first
              | (go_at_call 10
                 (with_reducible refine (tick_did hck hok n).mono ?_)
                 rintro e w1 ⟨rfl, hck1, ho1⟩
                 have g1 : w1.cell? ⟨lb, off + k * 3, none⟩ = some (.int .i64 0) := (ho1.cell (a := ⟨lb, off + k * 3, none⟩) hlb).trans h1)
              | (go_at_call 14
                 (with_reducible refine (now_is hck1 hok1 HE.out).mono ?_)
                 rintro e w2 ⟨rfl, hck2, ho2⟩)
              | (go_at_call 17
                 (with_reducible refine (fair_is hck2 HW2.out).mono ?_)
                 rintro e w' ⟨rfl, rfl⟩)
              | (go_at_call 16
                 (with_reducible refine (true_is hck2 HTt.out).mono ?_)
                 rintro e w' ⟨rfl, rfl⟩))
            all_goals
              exact ⟨fair_end (f := true) hlt hok1 hn1 HN1.out HW1.out hck2 ho2 (Oth.below ho1 Hb.out (Nat.le_refl _)), by simp [intOf]; omega⟩
          · have hw1 := (c.tickC_wild n).trans hwl
            obtain ⟨m, he⟩ : ∃ m, (c.tickC n).nowE q = m := ⟨_, rfl⟩
            obtain ⟨t, ht⟩ : ∃ t, (c.tickC n).T = t := ⟨_, rfl⟩
            have b3 : 1000 ≤ t := by rw [← ht]; exact hok1.t1
            have b4 : t ≤ 1099511627775 := by rw [← ht]; exact hok1.t2
            have HE := Lib.hid he
            have HTt := Lib.hid ((Cl.nowC_T _ q).trans ht)
            have HW1 := Lib.hid hw1
            have HW2 := Lib.hid ((Cl.nowC_wild _ q).trans hw1)
            have HN1 := Lib.hid hN1
            clear he ht hw1 hN1
            go_wp2_with (first
              | (go_at_call 10
                 (with_reducible refine (tick_did hck hok n).mono ?_)
                 rintro e w1 ⟨rfl, hck1, ho1⟩
                 have g1 : w1.cell? ⟨lb, off + k * 3, none⟩ = some (.int .i64 0) := (ho1.cell (a := ⟨lb, off + k * 3, none⟩) hlb).trans h1)
              | (go_at_call 14
                 (with_reducible refine (now_is hck1 hok1 HE.out).mono ?_)
                 rintro e w2 ⟨rfl, hck2, ho2⟩)
              | (go_at_call 17
                 (with_reducible refine (fair_is hck2 HW2.out).mono ?_)
                 rintro e w' ⟨rfl, rfl⟩)
              | (go_at_call 16
                 (with_reducible refine (true_is hck2 HTt.out).mono ?_)
                 rintro e w' ⟨rfl, rfl⟩))
            all_goals
              exact ⟨fair_end (f := false) hlt hok1 hn1 HN1.out HW1.out hck2 ho2 (Oth.below ho1 Hb.out (Nat.le_refl _)), by simp [intOf]; omega⟩
        · by_cases hd1 : d = 1
          · subst hd1
            have hok1 := hok.setC q n
            have hn1 := hnr.setC q n
            have hN1 := (c.setC_N q n).trans HN.out
            obtain ⟨hse, hsw⟩ := set_in HN.out hq3 n
            clear hd0
            by_cases hbad : n < -100000 ∨ 100000 < n
            · rw [if_pos hbad] at hse hsw
              have HSE := Lib.hid hse
              clear hse
              cases hwl : c.wild
              · have hw1 := hsw.trans hwl
                clear hsw
                obtain ⟨m, he⟩ : ∃ m, (c.setC q n).nowE q = m := ⟨_, rfl⟩
                obtain ⟨t, ht⟩ : ∃ t, (c.setC q n).T = t := ⟨_, rfl⟩
                obtain ⟨b1, b2⟩ : t - 10 ≤ m ∧ m ≤ t + 10 := by rw [← he, ← ht]; exact near_now hn1 hok1 hN1 hq3 hw1
                have b3 : 1000 ≤ t := by rw [← ht]; exact hok1.t1
                have b4 : t ≤ 1099511627775 := by rw [← ht]; exact hok1.t2
                have HE := Lib.hid he
                have HTt := Lib.hid ((Cl.nowC_T _ q).trans ht)
                have HW1 := Lib.hid hw1
                have HW2 := Lib.hid ((Cl.nowC_wild _ q).trans hw1)
                have HN1 := Lib.hid hN1
                clear he ht hw1 hN1
                go_wp2_with (first
                  | (go_at_call 12
                     (with_reducible refine (set_is hck hok (m := 1) HSE.out).mono ?_)
                     rintro e w1 ⟨rfl, hck1, ho1⟩
                     have g1 : w1.cell? ⟨lb, off + k * 3 + 2, none⟩ = some (.int .i64 n) := (ho1.cell (a := ⟨lb, off + k * 3 + 2, none⟩) hlb).trans h3)
                  | (go_at_call 9; refine (num_any _ _).mono ?_; rintro e w' ⟨rfl, rfl⟩)
                  | (go_at_call 14
                     (with_reducible refine (now_is hck1 hok1 HE.out).mono ?_)
                     rintro e w2 ⟨rfl, hck2, ho2⟩)
                  | (go_at_call 17
                     (with_reducible refine (fair_is hck2 HW2.out).mono ?_)
                     rintro e w' ⟨rfl, rfl⟩)
                  | (go_at_call 16
                     (with_reducible refine (true_is hck2 HTt.out).mono ?_)
                     rintro e w' ⟨rfl, rfl⟩))
                all_goals
                  exact ⟨fair_end (f := true) hlt hok1 hn1 HN1.out HW1.out hck2 ho2 (Oth.below ho1 Hb.out (Nat.le_refl _)), by simp [intOf]; omega⟩
              · have hw1 := hsw.trans hwl
                clear hsw
                obtain ⟨m, he⟩ : ∃ m, (c.setC q n).nowE q = m := ⟨_, rfl⟩
                obtain ⟨t, ht⟩ : ∃ t, (c.setC q n).T = t := ⟨_, rfl⟩
                have b3 : 1000 ≤ t := by rw [← ht]; exact hok1.t1
                have b4 : t ≤ 1099511627775 := by rw [← ht]; exact hok1.t2
                have HE := Lib.hid he
                have HTt := Lib.hid ((Cl.nowC_T _ q).trans ht)
                have HW1 := Lib.hid hw1
                have HW2 := Lib.hid ((Cl.nowC_wild _ q).trans hw1)
                have HN1 := Lib.hid hN1
                clear he ht hw1 hN1
                go_wp2_with (first
                  | (go_at_call 12
                     (with_reducible refine (set_is hck hok (m := 1) HSE.out).mono ?_)
                     rintro e w1 ⟨rfl, hck1, ho1⟩
                     have g1 : w1.cell? ⟨lb, off + k * 3 + 2, none⟩ = some (.int .i64 n) := (ho1.cell (a := ⟨lb, off + k * 3 + 2, none⟩) hlb).trans h3)
                  | (go_at_call 9; refine (num_any _ _).mono ?_; rintro e w' ⟨rfl, rfl⟩)
                  | (go_at_call 14
                     (with_reducible refine (now_is hck1 hok1 HE.out).mono ?_)
                     rintro e w2 ⟨rfl, hck2, ho2⟩)
                  | (go_at_call 17
                     (with_reducible refine (fair_is hck2 HW2.out).mono ?_)
                     rintro e w' ⟨rfl, rfl⟩)
                  | (go_at_call 16
                     (with_reducible refine (true_is hck2 HTt.out).mono ?_)
                     rintro e w' ⟨rfl, rfl⟩))
                all_goals
                  exact ⟨fair_end (f := false) hlt hok1 hn1 HN1.out HW1.out hck2 ho2 (Oth.below ho1 Hb.out (Nat.le_refl _)), by simp [intOf]; omega⟩
            · rw [if_neg hbad] at hse hsw
              have HSE := Lib.hid hse
              clear hse hbad
              by_cases hf1 : 10 < n
              · have hw1 : (c.setC q n).wild = true := by rw [hsw]; simp [hf1]
                clear hsw
                cases hwl : c.wild
                all_goals
                  obtain ⟨m, he⟩ : ∃ m, (c.setC q n).nowE q = m := ⟨_, rfl⟩
                  obtain ⟨t, ht⟩ : ∃ t, (c.setC q n).T = t := ⟨_, rfl⟩
                  have b3 : 1000 ≤ t := by rw [← ht]; exact hok1.t1
                  have b4 : t ≤ 1099511627775 := by rw [← ht]; exact hok1.t2
                  have HE := Lib.hid he
                  have HTt := Lib.hid ((Cl.nowC_T _ q).trans ht)
                  have HW1 := Lib.hid hw1
                  have HW2 := Lib.hid ((Cl.nowC_wild _ q).trans hw1)
                  have HN1 := Lib.hid hN1
                  clear he ht hw1 hN1
                  go_wp2_with (first
                    | (go_at_call 12
                       (with_reducible refine (set_is hck hok (m := 0) HSE.out).mono ?_)
                       rintro e w1 ⟨rfl, hck1, ho1⟩
                       have g1 : w1.cell? ⟨lb, off + k * 3 + 2, none⟩ = some (.int .i64 n) := (ho1.cell (a := ⟨lb, off + k * 3 + 2, none⟩) hlb).trans h3)
                    | (go_at_call 9; refine (num_any _ _).mono ?_; rintro e w' ⟨rfl, rfl⟩)
                    | (go_at_call 14
                       (with_reducible refine (now_is hck1 hok1 HE.out).mono ?_)
                       rintro e w2 ⟨rfl, hck2, ho2⟩)
                    | (go_at_call 17
                       (with_reducible refine (fair_is hck2 HW2.out).mono ?_)
                       rintro e w' ⟨rfl, rfl⟩)
                    | (go_at_call 16
                       (with_reducible refine (true_is hck2 HTt.out).mono ?_)
                       rintro e w' ⟨rfl, rfl⟩))
                  all_goals
                    exact ⟨fair_end (f := false) hlt hok1 hn1 HN1.out HW1.out hck2 ho2 (Oth.below ho1 Hb.out (Nat.le_refl _)), by simp [intOf]; omega⟩
              · by_cases hf2 : n < -10
                · have hw1 : (c.setC q n).wild = true := by rw [hsw]; simp [hf2]
                  clear hsw
                  cases hwl : c.wild
                  all_goals
                    obtain ⟨m, he⟩ : ∃ m, (c.setC q n).nowE q = m := ⟨_, rfl⟩
                    obtain ⟨t, ht⟩ : ∃ t, (c.setC q n).T = t := ⟨_, rfl⟩
                    have b3 : 1000 ≤ t := by rw [← ht]; exact hok1.t1
                    have b4 : t ≤ 1099511627775 := by rw [← ht]; exact hok1.t2
                    have HE := Lib.hid he
                    have HTt := Lib.hid ((Cl.nowC_T _ q).trans ht)
                    have HW1 := Lib.hid hw1
                    have HW2 := Lib.hid ((Cl.nowC_wild _ q).trans hw1)
                    have HN1 := Lib.hid hN1
                    clear he ht hw1 hN1
                    go_wp2_with (first
                      | (go_at_call 12
                         (with_reducible refine (set_is hck hok (m := 0) HSE.out).mono ?_)
                         rintro e w1 ⟨rfl, hck1, ho1⟩
                         have g1 : w1.cell? ⟨lb, off + k * 3 + 2, none⟩ = some (.int .i64 n) := (ho1.cell (a := ⟨lb, off + k * 3 + 2, none⟩) hlb).trans h3)
                      | (go_at_call 9; refine (num_any _ _).mono ?_; rintro e w' ⟨rfl, rfl⟩)
                      | (go_at_call 14
                         (with_reducible refine (now_is hck1 hok1 HE.out).mono ?_)
                         rintro e w2 ⟨rfl, hck2, ho2⟩)
                      | (go_at_call 17
                         (with_reducible refine (fair_is hck2 HW2.out).mono ?_)
                         rintro e w' ⟨rfl, rfl⟩)
                      | (go_at_call 16
                         (with_reducible refine (true_is hck2 HTt.out).mono ?_)
                         rintro e w' ⟨rfl, rfl⟩))
                    all_goals
                      exact ⟨fair_end (f := false) hlt hok1 hn1 HN1.out HW1.out hck2 ho2 (Oth.below ho1 Hb.out (Nat.le_refl _)), by simp [intOf]; omega⟩
                · have hsw' : (c.setC q n).wild = c.wild := by rw [hsw]; simp [hf1, hf2]
                  clear hsw
                  cases hwl : c.wild
                  · have hw1 := hsw'.trans hwl
                    clear hsw'
                    obtain ⟨m, he⟩ : ∃ m, (c.setC q n).nowE q = m := ⟨_, rfl⟩
                    obtain ⟨t, ht⟩ : ∃ t, (c.setC q n).T = t := ⟨_, rfl⟩
                    obtain ⟨b1, b2⟩ : t - 10 ≤ m ∧ m ≤ t + 10 := by rw [← he, ← ht]; exact near_now hn1 hok1 hN1 hq3 hw1
                    have b3 : 1000 ≤ t := by rw [← ht]; exact hok1.t1
                    have b4 : t ≤ 1099511627775 := by rw [← ht]; exact hok1.t2
                    have HE := Lib.hid he
                    have HTt := Lib.hid ((Cl.nowC_T _ q).trans ht)
                    have HW1 := Lib.hid hw1
                    have HW2 := Lib.hid ((Cl.nowC_wild _ q).trans hw1)
                    have HN1 := Lib.hid hN1
                    clear he ht hw1 hN1
                    go_wp2_with (first
                      | (go_at_call 12
                         (with_reducible refine (set_is hck hok (m := 0) HSE.out).mono ?_)
                         rintro e w1 ⟨rfl, hck1, ho1⟩
                         have g1 : w1.cell? ⟨lb, off + k * 3 + 2, none⟩ = some (.int .i64 n) := (ho1.cell (a := ⟨lb, off + k * 3 + 2, none⟩) hlb).trans h3)
                      | (go_at_call 9; refine (num_any _ _).mono ?_; rintro e w' ⟨rfl, rfl⟩)
                      | (go_at_call 14
                         (with_reducible refine (now_is hck1 hok1 HE.out).mono ?_)
                         rintro e w2 ⟨rfl, hck2, ho2⟩)
                      | (go_at_call 17
                         (with_reducible refine (fair_is hck2 HW2.out).mono ?_)
                         rintro e w' ⟨rfl, rfl⟩)
                      | (go_at_call 16
                         (with_reducible refine (true_is hck2 HTt.out).mono ?_)
                         rintro e w' ⟨rfl, rfl⟩))
                    all_goals
                      exact ⟨fair_end (f := true) hlt hok1 hn1 HN1.out HW1.out hck2 ho2 (Oth.below ho1 Hb.out (Nat.le_refl _)), by simp [intOf]; omega⟩
                  · have hw1 := hsw'.trans hwl
                    clear hsw'
                    obtain ⟨m, he⟩ : ∃ m, (c.setC q n).nowE q = m := ⟨_, rfl⟩
                    obtain ⟨t, ht⟩ : ∃ t, (c.setC q n).T = t := ⟨_, rfl⟩
                    have b3 : 1000 ≤ t := by rw [← ht]; exact hok1.t1
                    have b4 : t ≤ 1099511627775 := by rw [← ht]; exact hok1.t2
                    have HE := Lib.hid he
                    have HTt := Lib.hid ((Cl.nowC_T _ q).trans ht)
                    have HW1 := Lib.hid hw1
                    have HW2 := Lib.hid ((Cl.nowC_wild _ q).trans hw1)
                    have HN1 := Lib.hid hN1
                    clear he ht hw1 hN1
                    go_wp2_with (first
                      | (go_at_call 12
                         (with_reducible refine (set_is hck hok (m := 0) HSE.out).mono ?_)
                         rintro e w1 ⟨rfl, hck1, ho1⟩
                         have g1 : w1.cell? ⟨lb, off + k * 3 + 2, none⟩ = some (.int .i64 n) := (ho1.cell (a := ⟨lb, off + k * 3 + 2, none⟩) hlb).trans h3)
                      | (go_at_call 9; refine (num_any _ _).mono ?_; rintro e w' ⟨rfl, rfl⟩)
                      | (go_at_call 14
                         (with_reducible refine (now_is hck1 hok1 HE.out).mono ?_)
                         rintro e w2 ⟨rfl, hck2, ho2⟩)
                      | (go_at_call 17
                         (with_reducible refine (fair_is hck2 HW2.out).mono ?_)
                         rintro e w' ⟨rfl, rfl⟩)
                      | (go_at_call 16
                         (with_reducible refine (true_is hck2 HTt.out).mono ?_)
                         rintro e w' ⟨rfl, rfl⟩))
                    all_goals
                      exact ⟨fair_end (f := false) hlt hok1 hn1 HN1.out HW1.out hck2 ho2 (Oth.below ho1 Hb.out (Nat.le_refl _)), by simp [intOf]; omega⟩
          · have hok1 := hok
            have hn1 := hnr
            have hN1 := HN.out
            cases hwl : c.wild
            · have hw1 := hwl
              obtain ⟨m, he⟩ : ∃ m, c.nowE q = m := ⟨_, rfl⟩
              obtain ⟨t, ht⟩ : ∃ t, c.T = t := ⟨_, rfl⟩
              obtain ⟨b1, b2⟩ : t - 10 ≤ m ∧ m ≤ t + 10 := by rw [← he, ← ht]; exact near_now hn1 hok1 hN1 hq3 hw1
              have b3 : 1000 ≤ t := by rw [← ht]; exact hok1.t1
              have b4 : t ≤ 1099511627775 := by rw [← ht]; exact hok1.t2
              have HE := Lib.hid he
              have HTt := Lib.hid ((Cl.nowC_T _ q).trans ht)
              have HW1 := Lib.hid hw1
              have HW2 := Lib.hid ((Cl.nowC_wild _ q).trans hw1)
              have HN1 := Lib.hid hN1
              clear he ht hw1 hN1
              go_wp2_with (first
                | (go_at_call 14
                   (with_reducible refine (now_is hck hok1 HE.out).mono ?_)
                   rintro e w2 ⟨rfl, hck2, ho2⟩)
                | (go_at_call 17
                   (with_reducible refine (fair_is hck2 HW2.out).mono ?_)
                   rintro e w' ⟨rfl, rfl⟩)
                | (go_at_call 16
                   (with_reducible refine (true_is hck2 HTt.out).mono ?_)
                   rintro e w' ⟨rfl, rfl⟩))
              all_goals
                exact ⟨fair_end (f := true) hlt hok1 hn1 HN1.out HW1.out hck2 ho2 Hb.out, by simp [intOf]; omega⟩
            · have hw1 := hwl
              obtain ⟨m, he⟩ : ∃ m, c.nowE q = m := ⟨_, rfl⟩
              obtain ⟨t, ht⟩ : ∃ t, c.T = t := ⟨_, rfl⟩
              have b3 : 1000 ≤ t := by rw [← ht]; exact hok1.t1
              have b4 : t ≤ 1099511627775 := by rw [← ht]; exact hok1.t2
              have HE := Lib.hid he
              have HTt := Lib.hid ((Cl.nowC_T _ q).trans ht)
              have HW1 := Lib.hid hw1
              have HW2 := Lib.hid ((Cl.nowC_wild _ q).trans hw1)
              have HN1 := Lib.hid hN1
              clear he ht hw1 hN1
              go_wp2_with (first
                | (go_at_call 14
                   (with_reducible refine (now_is hck hok1 HE.out).mono ?_)
                   rintro e w2 ⟨rfl, hck2, ho2⟩)
                | (go_at_call 17
                   (with_reducible refine (fair_is hck2 HW2.out).mono ?_)
                   rintro e w' ⟨rfl, rfl⟩)
                | (go_at_call 16
                   (with_reducible refine (true_is hck2 HTt.out).mono ?_)
                   rintro e w' ⟨rfl, rfl⟩))
              all_goals
                exact ⟨fair_end (f := false) hlt hok1 hn1 HN1.out HW1.out hck2 ho2 Hb.out, by simp [intOf]; omega⟩
      · have Hb := Lib.hid hb
        clear hb hN hla
        go_wp2_with (go_at_call 18; refine (haw.out _).mono ?_; rintro e w3 ⟨rfl, hb3⟩)
        go_ret
        exact ⟨rfl, Hb.out.trans (hb3.mono Hb.out.size)⟩
    · have Hb := Lib.hid hb
      clear hb hN hla
      go_wp2_with (go_at_call 18; refine (haw.out _).mono ?_; rintro e w3 ⟨rfl, hb3⟩)
      go_ret
      exact ⟨rfl, Hb.out.trans (hb3.mono Hb.out.size)⟩
end Go.Proofs.Ytjakidjghjhccaa
