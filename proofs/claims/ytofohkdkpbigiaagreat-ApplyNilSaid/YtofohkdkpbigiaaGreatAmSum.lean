/-
  THE SUM OF A TEXT (bit by bit), as numbers; a function that is known to answer it may stand for itself.
-/
import Derived.Test.YtofohkdkpbigiaaGreatAmMain
import Derived.Test.YtofohkdkpbigiaaGreatAmExtD
import Derived.Laws.BitsLemmas
import Derived.Laws.Closers25b
namespace Go.Am

def bitStep (D : Int) : Int := if (bits .and .u32 D 1 == 1) = true then bits .xor .u32 (D / 2) 2197175160 else D / 2
def bitSteps : Nat → Int → Int
  | 0, D => D
  | j + 1, D => bitStep (bitSteps j D)
def byteStep (C : Int) (b : UInt8) : Int := bitSteps 8 (bits .xor .u32 C ((b.toNat : Int) % 4294967296))
def crc (l : List UInt8) : Int := l.foldl byteStep 4294967295
theorem bits_range (op : BinOp) (a b : Int) : 0 ≤ bits op .u32 a b ∧ bits op .u32 a b < 4294967296 :=
  ⟨bits_lo_u32 op a b, by have := bits_hi_u32 op a b; omega⟩
theorem bitStep_range {D : Int} (h : 0 ≤ D ∧ D < 4294967296) : 0 ≤ bitStep D ∧ bitStep D < 4294967296 := by
  unfold bitStep
  split
  · exact bits_range _ _ _
  · omega
theorem bitSteps_range {D : Int} (h : 0 ≤ D ∧ D < 4294967296) : ∀ j, 0 ≤ bitSteps j D ∧ bitSteps j D < 4294967296
  | 0 => h
  | j + 1 => bitStep_range (bitSteps_range h j)
theorem foldl_range : ∀ (l : List UInt8) (C : Int), 0 ≤ C ∧ C < 4294967296 → 0 ≤ l.foldl byteStep C ∧ l.foldl byteStep C < 4294967296
  | [], _, h => h
  | _ :: l, _, _ => foldl_range l _ (bitSteps_range (bits_range _ _ _) 8)
theorem crc_range (l : List UInt8) : 0 ≤ crc l ∧ crc l < 4294967296 := foldl_range l _ (by omega)
theorem crc_take {s : ByteArray} {k : Nat} (h : k < s.size) : crc (s.data.toList.take (k + 1)) = byteStep (crc (s.data.toList.take k)) s[k] := by
  unfold crc
  have h' : k < s.data.toList.length := by simpa using h
  rw [List.take_succ_eq_append_getElem h', List.foldl_append]
  rfl

theorem xor_nat {a b : Nat} (ha : a < 4294967296) (hb : b < 4294967296) : bits .xor .u32 (a : Int) (b : Int) = ((Nat.xor a b : Nat) : Int) := by
  have ha' : a % 2 ^ IntKind.u32.bits = a := Nat.mod_eq_of_lt ha
  have hb' : b % 2 ^ IntKind.u32.bits = b := Nat.mod_eq_of_lt hb
  simp only [bits, BitVec.ofInt_natCast, BitVec.toNat_xor, BitVec.toNat_ofNat, ha', hb', IntKind.wrap_u32]
  have : a ^^^ b < 2 ^ 32 := Nat.xor_lt_two_pow ha hb
  show ((a ^^^ b : Nat) : Int) % 4294967296 = ((a ^^^ b : Nat) : Int)
  omega
theorem xor_lt {a b : Nat} (ha : a < 4294967296) (hb : b < 4294967296) : Nat.xor a b < 4294967296 := Nat.xor_lt_two_pow (n := 32) ha hb
theorem stepN_spec {c : Nat} (h : c < 4294967296) : bitStep (c : Int) = (stepN c : Int) ∧ stepN c < 4294967296 := by
  have hand : bits .and .u32 (c : Int) 1 = ((c &&& 1 : Nat) : Int) := (bits_nat .u32 32 (Nat.le_refl _) (fun n h0 h1 => by rw [IntKind.wrap_u32]; omega) c 1 h (by decide)).1
  rw [Nat.and_one_is_mod] at hand
  unfold bitStep stepN
  rw [hand]
  have hd : c / 2 < 4294967296 := by omega
  by_cases hp : c % 2 = 1
  · have e1 : Nat.beq (Nat.mod c 2) 1 = true := Nat.beq_eq.mpr hp
    have e2 : (((c % 2 : Nat) : Int) == 1) = true := by simp; omega
    rw [e1, if_pos e2]
    refine ⟨?_, xor_lt hd (by decide)⟩
    exact xor_nat hd (by decide)
  · have e1 : Nat.beq (Nat.mod c 2) 1 = false := by
      cases hb : Nat.beq (Nat.mod c 2) 1
      · rfl
      · exact absurd (Nat.beq_eq.mp hb) hp
    have e2 : ¬ (((c % 2 : Nat) : Int) == 1) = true := by simp; omega
    rw [e1, if_neg e2]
    exact ⟨rfl, hd⟩
theorem bitSteps_comm (D : Int) : ∀ j, bitSteps j (bitStep D) = bitStep (bitSteps j D)
  | 0 => rfl
  | j + 1 => by simp only [bitSteps]; rw [bitSteps_comm D j]
theorem stepsN_spec : ∀ (j : Nat) {c : Nat}, c < 4294967296 → bitSteps j (c : Int) = (stepsN j c : Int) ∧ stepsN j c < 4294967296
  | 0, c, h => ⟨rfl, h⟩
  | j + 1, c, h => by
    obtain ⟨h1, h2⟩ := stepN_spec h
    obtain ⟨h3, h4⟩ := stepsN_spec j h2
    simp only [stepsN, kN_eq, bitSteps]
    rw [← bitSteps_comm, h1]
    exact ⟨h3, h4⟩
theorem crcGo_spec {bs : ByteArray} : ∀ (n i c : Nat), c < 4294967296 → i + n = bs.data.toList.length → (bs.data.toList.drop i).foldl byteStep (c : Int) = (crcGo (Str.of bs) n i c : Int)
  | 0, i, c, hc, hn => by
    rw [List.drop_eq_nil_of_le (by omega)]
    rfl
  | n + 1, i, c, hc, hn => by
    have hi : i < bs.data.toList.length := by omega
    rw [List.drop_eq_getElem_cons hi, List.foldl_cons]
    simp only [crcGo, kN_eq]
    have hb : (bs.data.toList[i]).toNat < 256 := (bs.data.toList[i]).toNat_lt
    have hat := str_at hi
    rw [hat]
    have hx : Nat.xor c (bs.data.toList[i]).toNat < 4294967296 := xor_lt hc (by omega)
    obtain ⟨h1, h2⟩ := stepsN_spec 8 hx
    have : byteStep (c : Int) bs.data.toList[i] = (stepsN 8 (Nat.xor c (bs.data.toList[i]).toNat) : Int) := by
      unfold byteStep
      have e : ((bs.data.toList[i]).toNat : Int) % 4294967296 = ((bs.data.toList[i]).toNat : Int) := by omega
      rw [e, xor_nat hc (by omega)]
      exact h1
    rw [this]
    exact crcGo_spec n (i + 1) _ h2 (by omega)
theorem crcN_spec (bs : ByteArray) : crc bs.data.toList = (crcN (Str.of bs) : Int) := by
  have := crcGo_spec (bs := bs) (Str.of bs).len 0 4294967295 (by decide) (by simp [Str.of])
  simpa [crc, crcN] using this

/-- What a function answers that sums a text. -/
def SumOK (P : Program) (f : FuncId) : Prop :=
  (∀ args w, (callFunc f args).run P w = .ok (.enter f args) w) ∧
  ∀ (s : ByteArray) (w : World), s.size ≤ 9223372036854775807 → Calls P f #[.string s] w fun e w' => e = .returned (.int .u32 (bits .xor .u32 4294967295 (crc s.data.toList))) ∧ w' = w
theorem crcN_lt (bs : ByteArray) : crcN (Str.of bs) < 4294967296 := by
  have h := crc_range bs.data.toList
  rw [crcN_spec] at h
  omega
theorem sum_own {P : Program} {f : FuncId} (h : SumOK P f) {args : List AV} {s : St} {r : CR} (hr : sumOwn args s = some r) {ι : Inj} {w : World} {cargs : Array Value} (hv : VRs ι args cargs.toList) (hH : HR ι s w) : CallResF P ι s w r f cargs := by
  unfold sumOwn at hr
  split at hr
  · rename_i x s
    split at hr
    · rename_i hlen
      cases hr
      obtain ⟨cl⟩ := cargs
      match cl, hv with
      | [cv], hv =>
        simp only [VRs, and_true] at hv
        obtain ⟨bs, rfl, rfl⟩ := hv.str
        have hsz : bs.size ≤ 1000000000 := by
          have := Nat.ble_eq.mp hlen
          simpa [Str.of] using this
        refine .inl ⟨h.1 _ w, Calls.mono (h.2 bs w (by omega)) fun e w' ⟨h1, h2⟩ => ?_⟩
        subst h1; subst h2
        refine ⟨_, _, rfl, ι, ?_, hH, Ext.refl _ _ _⟩
        have hx := xor_nat (a := 4294967295) (by decide) (crcN_lt bs)
        have e : ((4294967295 : Nat) : Int) = 4294967295 := rfl
        rw [e] at hx
        rw [crcN_spec, hx]
        simp [VR]
      | [], hv => simp [VRs] at hv
      | _ :: _ :: _, hv => simp [VRs] at hv
    · cases hr
  · cases hr
end Go.Am
