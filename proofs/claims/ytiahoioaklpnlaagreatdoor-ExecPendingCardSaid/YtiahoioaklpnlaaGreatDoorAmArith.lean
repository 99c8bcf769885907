/-
  NUMBERS, TEXTS, COMPARISONS of the abstract machine against the model's.
-/
import Derived.Test.YtiahoioaklpnlaaGreatDoorAmCells
import Derived.Laws.StructEq
namespace Go.Am

theorem fits_wrap {k : IntKind} {n : Int} (h : fits k n = true) : k.wrap n = n := by
  have hb : k.min ≤ n ∧ n ≤ k.max := by
    cases n with
    | ofNat m => cases k <;> simp only [fits, Nat.blt_eq] at h <;> simp only [IntKind.min, IntKind.max, IntKind.bits, IntKind.signed, if_true, Bool.false_eq_true, if_false] <;> simp only [Int.ofNat_eq_natCast] <;> omega
    | negSucc m => cases k <;> simp only [fits, Nat.blt_eq, Bool.false_eq_true] at h <;> simp only [IntKind.min, IntKind.max, IntKind.bits, IntKind.signed, if_true] <;> simp only [Int.negSucc_eq] <;> omega
  generalize n = n at hb
  unfold IntKind.wrap
  cases k <;> simp only [IntKind.min, IntKind.max, IntKind.bits, IntKind.signed, if_true, Bool.false_eq_true, if_false, Bool.true_and, Bool.false_and, decide_eq_true_eq, ge_iff_le] at hb ⊢ <;> first | omega | (split <;> omega)
theorem fits_lt {k : IntKind} {n b : Nat} (h : fits k (b : Int) = true) (hn : n < b) : fits k (n : Int) = true := by
  have h : fits k (.ofNat b) = true := h
  show fits k (.ofNat n) = true
  cases k <;> simp only [fits, Nat.blt_eq] at h ⊢ <;> omega
theorem wr_eq (k : IntKind) (n : Int) : wr k n = k.wrap n := by
  unfold wr; split
  · rename_i h; exact (fits_wrap h).symm
  · rfl

theorem ofInt_toNat (k : IntKind) (x : Int) : (BitVec.ofInt k.bits x).toNat = (x % (2 ^ k.bits : Int)).toNat := by
  rw [BitVec.toNat_ofInt]
  congr 1
theorem bitsOf_spec {op : BinOp} {k : IntKind} {x y r : Int} {P : Program} {w : World} (h : bitsOf op k x y = some r) : (Op.intBits op k x y).run P w = .ok (.int k r) w := by
  unfold bitsOf at h
  cases op <;> simp only [Option.some.injEq, reduceCtorEq] at h <;> subst h <;> simp only [Op.intBits, Sem.run_pure, wr_eq]
  · rw [BitVec.toNat_and, ofInt_toNat, ofInt_toNat]; rfl
  · rw [BitVec.toNat_or, ofInt_toNat, ofInt_toNat]; rfl
  · rw [BitVec.toNat_xor, ofInt_toNat, ofInt_toNat]; rfl
  · rw [BitVec.toNat_and, BitVec.toNat_not, ofInt_toNat, ofInt_toNat]; rfl

theorem decide_lt_gt (x y : Int) : decide (y < x) = decide (x > y) := rfl
theorem intOp_spec {op : BinOp} {k : IntKind} {x y : Int} {v : AV} {t : TypeId} {P : Program} {w : World} {ι : Inj} (hs : op ≠ .shl ∧ op ≠ .shr) (h : intOp op k x y = some v) :
    ∃ cv, (binOp op t (.int k x) (.int k y)).run P w = .ok cv w ∧ VR ι v cv := by
  cases op <;> simp only [intOp] at h
  case shl => exact absurd rfl hs.1
  case shr => exact absurd rfl hs.2
  case quo =>
    split at h
    · cases h
    · rename_i h0; cases h; exact ⟨.int k (k.wrap (x.tdiv y)), by simp [binOp, Op.intDiv, h0], by simp [VR, wr_eq]⟩
  case rem =>
    split at h
    · cases h
    · rename_i h0; cases h; exact ⟨.int k (x.tmod y), by simp [binOp, Op.intDiv, h0], by simp [VR]⟩
  case add => cases h; exact ⟨.int k (k.wrap (x + y)), by simp [binOp, Op.intArith], by simp [VR, wr_eq]⟩
  case sub => cases h; exact ⟨.int k (k.wrap (x - y)), by simp [binOp, Op.intArith], by simp [VR, wr_eq]⟩
  case mul => cases h; exact ⟨.int k (k.wrap (x * y)), by simp [binOp, Op.intArith], by simp [VR, wr_eq]⟩
  case eql => cases h; exact ⟨.bool (x == y), by simp [binOp, Op.intCmp], by simp only [VR] <;> rfl⟩
  case neq => cases h; exact ⟨.bool (x != y), by simp [binOp, Op.intCmp], by simp only [VR] <;> rfl⟩
  case lss => cases h; exact ⟨.bool (decide (x < y)), by simp [binOp, Op.intCmp], by simp [VR]⟩
  case leq => cases h; exact ⟨.bool (decide (x ≤ y)), by simp [binOp, Op.intCmp], by simp [VR]⟩
  case gtr => cases h; exact ⟨.bool (decide (x > y)), by simp [binOp, Op.intCmp], by simp [VR]⟩
  case geq => cases h; exact ⟨.bool (decide (x ≥ y)), by simp [binOp, Op.intCmp], by simp [VR]⟩
  all_goals
    split at h
    · rename_i r hr; cases h
      exact ⟨.int k r, by simp [binOp, bitsOf_spec hr], by simp [VR]⟩
    · cases h
theorem shiftOp_spec {op : BinOp} {k j : IntKind} {x y : Int} {v : AV} {t : TypeId} {P : Program} {w : World} {ι : Inj} (hs : op = .shl ∨ op = .shr) (h : shiftOp op k x y = some v) :
    ∃ cv, (binOp op t (.int k x) (.int j y)).run P w = .ok cv w ∧ VR ι v cv := by
  unfold shiftOp at h
  split at h
  · cases h
  · rename_i h0
    rcases hs with rfl | rfl <;> simp only [Option.some.injEq] at h <;> subst h
    · exact ⟨.int k (k.wrap (x * 2 ^ min y.toNat k.bits)), by simp [binOp, Op.shift, h0], by simp [VR, wr_eq]⟩
    · exact ⟨.int k (x.fdiv (2 ^ min y.toNat k.bits)), by simp [binOp, Op.shift, h0], by simp [VR]⟩

/- Texts. -/
theorem encL_append (a b : List UInt8) : encL (a ++ b) = encL a * 256 ^ b.length + encL b := by
  have key : ∀ (b : List UInt8) (n : Nat), b.foldl (fun a b => a * 256 + b.toNat) n = n * 256 ^ b.length + b.foldl (fun a b => a * 256 + b.toNat) 0 := by
    intro b
    induction b with
    | nil => intro n; simp
    | cons x b ih =>
      intro n
      simp only [List.foldl_cons, List.length_cons]
      rw [ih (n * 256 + x.toNat), ih (0 * 256 + x.toNat)]
      have : n * 256 ^ (b.length + 1) = n * 256 * 256 ^ b.length := by rw [Nat.pow_succ, Nat.mul_comm (256 ^ b.length) 256, Nat.mul_assoc]
      rw [this]
      simp only [Nat.add_mul, Nat.zero_mul, Nat.zero_add]
      omega
  unfold encL
  rw [List.foldl_append, key b]
theorem encL_cons (x : UInt8) (l : List UInt8) : encL (x :: l) = x.toNat * 256 ^ l.length + encL l := by
  have := encL_append [x] l
  simpa [encL] using this
theorem encL_lt : ∀ (l : List UInt8), encL l < 256 ^ l.length
  | [] => by simp [encL]
  | x :: l => by
    rw [encL_cons]
    have h1 := encL_lt l
    have h2 : x.toNat < 256 := UInt8.toNat_lt x
    simp only [List.length_cons, Nat.pow_succ]
    have h3 : x.toNat * 256 ^ l.length ≤ 255 * 256 ^ l.length := Nat.mul_le_mul_right _ (by omega)
    omega
theorem encL_inj : ∀ {a b : List UInt8}, a.length = b.length → encL a = encL b → a = b
  | [], [], _, _ => rfl
  | [], _ :: _, h, _ => by simp at h
  | _ :: _, [], h, _ => by simp at h
  | x :: a, y :: b, hl, h => by
    simp only [List.length_cons, Nat.add_right_cancel_iff] at hl
    rw [encL_cons, encL_cons, hl] at h
    have h1 := encL_lt a
    have h2 := encL_lt b
    rw [hl] at h1
    have hp : 0 < 256 ^ b.length := Nat.pow_pos (by decide)
    have e1 : (x.toNat * 256 ^ b.length + encL a) / 256 ^ b.length = x.toNat := by
      rw [Nat.mul_comm, Nat.mul_add_div hp, Nat.div_eq_of_lt h1]; rfl
    have e2 : (y.toNat * 256 ^ b.length + encL b) / 256 ^ b.length = y.toNat := by
      rw [Nat.mul_comm, Nat.mul_add_div hp, Nat.div_eq_of_lt h2]; rfl
    have e3 : x.toNat = y.toNat := by rw [← e1, ← e2, h]
    have e4 : x = y := UInt8.toNat_inj.mp e3
    subst e4
    rw [encL_inj hl (by omega)]
theorem encL_take (l : List UInt8) (n : Nat) : encL (l.take n) = encL l / 256 ^ (l.length - n) := by
  have h1 := encL_append (l.take n) (l.drop n)
  rw [List.take_append_drop, List.length_drop] at h1
  have h2 := encL_lt (l.drop n)
  rw [List.length_drop] at h2
  rw [h1, Nat.mul_comm, Nat.mul_add_div (Nat.pow_pos (by decide)), Nat.div_eq_of_lt h2]; rfl
theorem encL_drop (l : List UInt8) (n : Nat) : encL (l.drop n) = encL l % 256 ^ (l.length - n) := by
  have h1 := encL_append (l.take n) (l.drop n)
  rw [List.take_append_drop, List.length_drop] at h1
  have h2 := encL_lt (l.drop n)
  rw [List.length_drop] at h2
  rw [h1, Nat.mul_comm, Nat.mul_add_mod, Nat.mod_eq_of_lt h2]
theorem encL_get (l : List UInt8) (i : Nat) (h : i < l.length) : encL l / 256 ^ (l.length - 1 - i) % 256 = l[i].toNat := by
  have h1 := encL_take l (i + 1)
  have e : l.length - (i + 1) = l.length - 1 - i := by omega
  rw [e] at h1
  rw [← h1, List.take_succ_eq_append_getElem h, encL_append]
  simp [encL]

theorem toList_data (s : ByteArray) : s.toList = s.data.toList := ByteArray.toList_eq s
theorem Str.of_cat (a b : ByteArray) : Str.of (a ++ b) = (Str.of a).cat (Str.of b) := by
  simp [Str.of, Str.cat, ByteArray.data_append, encL_append]
theorem Str.beq_of (a b : ByteArray) : (Str.of a).beq (Str.of b) = decide (a.data.toList = b.data.toList) := by
  unfold Str.beq Str.of
  by_cases h : a.data.toList = b.data.toList
  · rw [decide_eq_true h, h]; simp
  · rw [decide_eq_false h]
    by_cases hl : a.data.toList.length = b.data.toList.length
    · have : encL a.data.toList ≠ encL b.data.toList := fun e => h (encL_inj hl e)
      simp only [Bool.and_eq_false_iff]
      right
      cases hb : Nat.beq (encL a.data.toList) (encL b.data.toList)
      · rfl
      · exact absurd (Nat.beq_eq.mp hb) this
    · simp only [Bool.and_eq_false_iff]
      left
      cases hb : Nat.beq a.data.toList.length b.data.toList.length
      · rfl
      · exact absurd (Nat.beq_eq.mp hb) hl
theorem Str.of_inj {a b : ByteArray} (h : Str.of a = Str.of b) : a.data.toList = b.data.toList := by
  simp only [Str.of, Str.mk.injEq] at h
  exact encL_inj h.1 h.2
/-- One text ahead of another, by their numbers: of one length the numbers; a beginning is ahead. -/
theorem less_eq : ∀ (a b : List UInt8), Op.bytesLess a b = (let m := min a.length b.length
    Nat.blt (encL (a.take m)) (encL (b.take m)) || (Nat.beq (encL (a.take m)) (encL (b.take m)) && Nat.blt a.length b.length))
  | [], [] => by simp [Op.bytesLess, encL]; rfl
  | [], _ :: _ => by simp [Op.bytesLess, encL, Nat.blt]
  | _ :: _, [] => by simp [Op.bytesLess, encL, Nat.blt]; exact ⟨rfl, rfl⟩
  | x :: a, y :: b => by
    have ih := less_eq a b
    simp only [Op.bytesLess, List.length_cons, ih]
    have hm : min (a.length + 1) (b.length + 1) = min a.length b.length + 1 := by omega
    simp only [hm, List.take_succ_cons, encL_cons]
    generalize hma : a.take (min a.length b.length) = a'
    generalize hmb : b.take (min a.length b.length) = b'
    have hla : a'.length = min a.length b.length := by rw [← hma]; simp
    have hlb : b'.length = min a.length b.length := by rw [← hmb]; simp
    have h1 := encL_lt a'
    have h2 := encL_lt b'
    rw [hla] at h1 ⊢
    rw [hlb] at h2 ⊢
    generalize 256 ^ min a.length b.length = p at *
    have hx : (x < y) = (x.toNat < y.toNat) := by simp [UInt8.lt_iff_toNat_lt]
    have hxe : (x = y) = (x.toNat = y.toNat) := by simp [UInt8.toNat_inj]
    rw [Bool.eq_iff_iff]
    simp only [Bool.or_eq_true, Bool.and_eq_true, decide_eq_true_eq, beq_iff_eq, Nat.blt_eq, Nat.beq_eq, hx, hxe, Nat.add_lt_add_iff_right]
    generalize x.toNat = X
    generalize y.toNat = Y
    generalize encL a' = A at *
    generalize encL b' = B at *
    rcases Nat.lt_trichotomy X Y with h | h | h
    · have : X * p + p ≤ Y * p := by
        have := Nat.mul_le_mul_right p (show X + 1 ≤ Y from h)
        rw [Nat.add_mul, Nat.one_mul] at this; exact this
      constructor
      · intro _; left; omega
      · intro _; left; exact h
    · subst h
      constructor
      · rintro (h | ⟨_, h | ⟨h, h'⟩⟩)
        · omega
        · left; omega
        · right; exact ⟨by omega, h'⟩
      · rintro (h | ⟨h, h'⟩)
        · right; exact ⟨rfl, .inl (by omega)⟩
        · right; exact ⟨rfl, .inr ⟨by omega, h'⟩⟩
    · have : Y * p + p ≤ X * p := by
        have := Nat.mul_le_mul_right p (show Y + 1 ≤ X from h)
        rw [Nat.add_mul, Nat.one_mul] at this; exact this
      constructor
      · rintro (h' | ⟨h', _⟩) <;> omega
      · rintro (h' | ⟨h', _⟩) <;> omega
theorem Str.lt_of (a b : ByteArray) : (Str.of a).lt (Str.of b) = Op.bytesLess a.data.toList b.data.toList := by
  rw [less_eq]
  simp only [Str.lt, Str.of, encL_take]

theorem strOp_spec {op : BinOp} {x y : ByteArray} {v : AV} {t : TypeId} {P : Program} {w : World} {ι : Inj} (h : strOp op (Str.of x) (Str.of y) = some v) :
    ∃ cv, (binOp op t (.string x) (.string y)).run P w = .ok cv w ∧ VR ι v cv := by
  have hb : (Str.of x).beq (Str.of y) = (x.toList == y.toList) := by
    rw [Str.beq_of, toList_data, toList_data]
    rw [Bool.eq_iff_iff]; simp
  have hlt : (Str.of x).lt (Str.of y) = Op.bytesLess x.toList y.toList := by rw [Str.lt_of, toList_data, toList_data]
  cases op <;> simp only [strOp, hb, hlt, reduceCtorEq] at h
  case add =>
    split at h
    · rename_i hle
      cases h
      have hle : x.size + y.size ≤ 9223372036854775807 := by
        have := Nat.ble_eq.mp hle
        simpa [Str.of] using this
      have hmax : ¬ (IntKind.i64.max < ((x.size + y.size : Nat) : Int)) := by
        simp only [IntKind.max, IntKind.signed, IntKind.bits, if_true]; omega
      refine ⟨.string (x ++ y), ?_, ?_⟩
      · simp only [binOp, Op.stringOp, gt_iff_lt, hmax, if_false, Sem.run_pure]
      · simp only [VR]; exact ⟨_, rfl, (Str.of_cat x y).symm⟩
    · cases h
  all_goals
    cases h
    exact ⟨_, by simp [binOp, Op.stringOp]; rfl, by simp [VR]⟩

section
variable {P : Program} {X : Ctx} (hX : CtxOK P X) {ι : Inj}
include hX
theorem partAt_spec {t : TypeId} {l : List AV} {m : Array Value} {off : Nat} {v : AV} {w : World} (h : partAt X t l off = some v) (hl : VRs ι l m.toList) :
    ∃ cv, (part t m off).run P w = .ok cv w ∧ VR ι v cv := by
  unfold partAt at h
  split at h
  · rename_i d n hd hn
    split at h
    · rename_i hagg
      split at h
      · rename_i hle
        cases h
        refine ⟨.agg (m.extract off (off + n)), by simp [part, run_isAgg hX hd, hagg, run_size hX hn], ?_⟩
        simp only [VR]
        refine ⟨_, rfl, ?_⟩
        have : (m.extract off (off + n)).toList = (m.toList.drop off).take n := by
          rw [Array.toList_extract, List.extract_eq_take_drop]
          congr 1; omega
        rw [this]
        exact (hl.drop off).take n
      · cases h
    · rename_i hagg
      obtain ⟨cv, h1, h2⟩ := hl.get h
      have h1 : m[off]? = some cv := by simpa using h1
      exact ⟨cv, by simp [part, run_isAgg hX hd, hagg, h1], h2⟩
  · cases h
omit hX in
theorem eqFields_name {f : Field} (h : ¬ f.name = "_") : f.name ≠ "_" := h
theorem eqFields_spec {eq : TypeId → AV → AV → Option Bool} {xs ys : List AV} {cxs cys : Array Value} {d : Nat} (hx : VRs ι xs cxs.toList) (hy : VRs ι ys cys.toList)
    (heq : ∀ t x y b, eq t x y = some b → ∀ cx cy w, VR ι x cx → VR ι y cy → (Op.equalIn d t cx cy).run P w = .ok b w) :
    ∀ {fs : List Field} {b : Bool} {w : World}, eqFields X eq xs ys fs = some b → (Op.eqFields d cxs cys fs).run P w = .ok b w
  | [], b, w, h => by simp [eqFields] at h; subst h; simp [Op.eqFields]
  | fd :: fds, b, w, h => by
    simp only [eqFields] at h
    split at h
    · cases h
    · rename_i hne
      split at h
      · rename_i a c ha hc
        obtain ⟨ca, r1, v1⟩ := partAt_spec hX (w := w) ha hx
        obtain ⟨cc, r2, v2⟩ := partAt_spec hX (w := w) hc hy
        have hif : (fd.name ≠ "_") = True := by simp [hne]
        split at h
        · rename_i heqt
          have r3 := heq _ _ _ _ heqt ca cc w v1 v2
          simp only [Op.eqFields, hif, if_true, Sem.run_bind, r1, r2, r3, Result.andThen_ok, Bool.not_true, Bool.false_eq_true, if_false]
          exact eqFields_spec hx hy heq h
        · rename_i r hr
          cases b with
          | true => exact absurd h hr
          | false =>
            have r3 := heq _ _ _ _ h ca cc w v1 v2
            simp only [Op.eqFields, hif, if_true, Sem.run_bind, r1, r2, r3, Result.andThen_ok, Bool.not_false, if_true, Sem.run_pure]
      · cases h
theorem eqAt_spec : ∀ (f : Nat) (t : TypeId) (x y : AV) (b : Bool), eqAt X f t x y = some b → ∀ (d : Nat), f ≤ d → ∀ (cx cy : Value) (w : World), VR ι x cx → VR ι y cy → (Op.equalIn d t cx cy).run P w = .ok b w
  | 0, t, x, y, b, h => by simp [eqAt] at h
  | f + 1, t, x, y, b, h => by
    intro d hd cx cy w hx hy
    obtain ⟨d, rfl⟩ : ∃ e, d = e + 1 := ⟨d - 1, by omega⟩
    simp only [eqAt] at h
    split at h
    · rename_i a c hu; simp only [VR] at hx hy; subst hx; subst hy; cases h; simp [Op.equalIn, run_und hX hu]
    · rename_i j a k c hu
      split at h
      · rename_i hjk; simp only [VR] at hx hy; subst hx; subst hy; subst hjk; cases h
        simp only [Op.equalIn, Sem.run_bind, run_und hX hu, Result.andThen_ok, if_true, Sem.run_pure]; rfl
      · cases h
    · rename_i a c hu
      simp only [VR] at hx hy; obtain ⟨ba, rfl, rfl⟩ := hx; obtain ⟨bc, rfl, rfl⟩ := hy; cases h
      simp only [Op.equalIn, Sem.run_bind, run_und hX hu, Result.andThen_ok, Sem.run_pure, Str.beq_of]
      rw [beq_toListBytes, toList_data, toList_data]
      congr 1
      rw [Bool.eq_iff_iff]; simp
    · rename_i e c hu
      simp only [VR] at hx; subst hx
      cases c with
      | none => simp only [VR] at hy; subst hy; cases h; simp [Op.equalIn, run_und hX hu]
      | some p => simp only [VR] at hy; obtain ⟨_, _, _, rfl⟩ := hy; cases h; simp [Op.equalIn, run_und hX hu]
    · rename_i e p hu
      simp only [VR] at hx hy; obtain ⟨_, _, _, rfl⟩ := hx; subst hy; cases h; simp [Op.equalIn, run_und hX hu]
    · rename_i e n1 c1 x1 a n2 c2 x2 hu
      simp only [VR] at hx; obtain ⟨_, _, _, rfl⟩ := hx
      cases a with
      | none => simp only [VR] at hy; obtain ⟨_, _, _, rfl⟩ := hy; cases h; simp [Op.equalIn, run_und hX hu]
      | some p => simp only [VR] at hy; obtain ⟨_, _, _, _, _, rfl, _⟩ := hy; cases h; simp [Op.equalIn, run_und hX hu]
    · rename_i e p n1 c1 x1 n2 c2 x2 hu
      simp only [VR] at hx hy; obtain ⟨_, _, _, _, _, rfl, _⟩ := hx; obtain ⟨_, _, _, rfl⟩ := hy; cases h; simp [Op.equalIn, run_und hX hu]
    · rename_i k e c hu
      simp only [VR] at hx; subst hx
      cases c with
      | none => simp only [VR] at hy; subst hy; cases h; simp [Op.equalIn, run_und hX hu]
      | some p => simp only [VR] at hy; obtain ⟨_, _, _, rfl⟩ := hy; cases h; simp [Op.equalIn, run_und hX hu]
    · rename_i k e p hu
      simp only [VR] at hx hy; obtain ⟨_, _, _, rfl⟩ := hx; subst hy; cases h; simp [Op.equalIn, run_und hX hu]
    · rename_i ms hu
      simp only [VR] at hx hy; subst hx; subst hy
      split at h
      · cases h; simp [Op.equalIn, run_und hX hu]
      · cases h
    · rename_i ms u v hu
      simp only [VR] at hx hy; subst hx; obtain ⟨_, rfl, _⟩ := hy; cases h; simp [Op.equalIn, run_und hX hu]
    · rename_i ms u v hu
      simp only [VR] at hx hy; subst hy; obtain ⟨_, rfl, _⟩ := hx; cases h; simp [Op.equalIn, run_und hX hu]
    · rename_i fs xs ys hu
      split at h
      · rename_i hok
        simp only [VR] at hx hy; obtain ⟨cxs, rfl, hx⟩ := hx; obtain ⟨cys, rfl, hy⟩ := hy
        have hfs : P.fieldsOf t = fs := by simp [Program.fieldsOf, und_spec hX hu]
        rw [run_equalIn_struct w d t cxs cys (by rw [hfs]; exact und_spec hX hu) (hX.eqs t hok).1, hfs]
        exact eqFields_spec hX hx hy (fun t' x' y' b' he cx' cy' w' h1 h2 => eqAt_spec f t' x' y' b' he d (by omega) cx' cy' w' h1 h2) h
      · cases h
    · rename_i hu
      simp only [VR] at hx hy; subst hx; subst hy; cases h; simp [Op.equalIn, run_und hX hu]
    · rename_i hu
      simp only [VR] at hx hy; subst hx; obtain ⟨_, _, rfl, _⟩ := hy; cases h; simp [Op.equalIn, run_und hX hu]
    · rename_i hu
      simp only [VR] at hx hy; subst hy; obtain ⟨_, _, rfl, _⟩ := hx; cases h; simp [Op.equalIn, run_und hX hu]
    · cases h

omit hX in
theorem fltOp_spec {op : BinOp} {k : FloatKind} {x y : Nat} {v : AV} {t : TypeId} {w : World} (h : fltOp op k x y = some v) : ∃ cv, (binOp op t (.float k x) (.float k y)).run P w = .ok cv w ∧ VR ι v cv := by
  have ar : ∀ (o : Option Nat), fltRes k o = some v → ∃ r, o = some r ∧ v = .flt k r := fun o ho => by
    cases o with
    | none => cases ho
    | some r => cases ho; exact ⟨r, rfl, rfl⟩
  unfold fltOp at h
  cases op <;> simp only [Option.some.injEq, reduceCtorEq] at h
  case add => obtain ⟨r, h1, rfl⟩ := ar _ h; exact ⟨.float k r, by simp [binOp, Op.floatArith, h1], by simp [VR]⟩
  case sub => obtain ⟨r, h1, rfl⟩ := ar _ h; exact ⟨.float k r, by simp [binOp, Op.floatArith, h1], by simp [VR]⟩
  case mul => obtain ⟨r, h1, rfl⟩ := ar _ h; exact ⟨.float k r, by simp [binOp, Op.floatArith, h1], by simp [VR]⟩
  case quo => obtain ⟨r, h1, rfl⟩ := ar _ h; exact ⟨.float k r, by simp [binOp, Op.floatArith, h1], by simp [VR]⟩
  all_goals (subst h; exact ⟨.bool _, by simp [binOp, Op.floatCmp]; rfl, by simp [VR]⟩)
theorem binAt_spec {op : BinOp} {t : TypeId} {ox oy : Operand} {x y v : AV} {cx cy : Value} {w : World} (h : binAt X op t x y = some v) (hx : VR ι x cx) (hy : VR ι y cy) :
    ∃ cv, (do eqGuard op t ox oy cx cy; binOp op t cx cy : Sem Value).run P w = .ok cv w ∧ VR ι v cv := by
  unfold binAt at h
  have plain : ∀ (cx cy : Value), (∀ a, cx ≠ .agg a) → cx ≠ .nilIface → (eqGuard op t ox oy cx cy).run P w = .ok () w := fun cx cy h1 h2 => by
    unfold eqGuard
    cases op <;> simp
    all_goals
      split
      · exact absurd rfl h2
      · exact absurd rfl (h1 _)
      · rfl
  split at h
  · rename_i k a j c
    simp only [VR] at hx hy; subst hx; subst hy
    have hg := plain (.float k a) (.float j c) (by simp) (by simp)
    split at h
    · rename_i hk; subst hk
      obtain ⟨cv, h1, h2⟩ := fltOp_spec (P := P) (w := w) (ι := ι) (t := t) h
      exact ⟨cv, by simp only [Sem.run_bind, hg, Result.andThen_ok, h1], h2⟩
    · cases h
  · rename_i k a j c
    simp only [VR] at hx hy; subst hx; subst hy
    have hg := plain (.int k a) (.int j c) (by simp) (by simp)
    split at h
    · obtain ⟨cv, h1, h2⟩ := shiftOp_spec (P := P) (w := w) (ι := ι) (t := t) (j := j) (.inl rfl) h
      exact ⟨cv, by simp only [Sem.run_bind, hg, Result.andThen_ok, h1], h2⟩
    · obtain ⟨cv, h1, h2⟩ := shiftOp_spec (P := P) (w := w) (ι := ι) (t := t) (j := j) (.inr rfl) h
      exact ⟨cv, by simp only [Sem.run_bind, hg, Result.andThen_ok, h1], h2⟩
    · rename_i hs1 hs2
      split at h
      · rename_i hkj; subst hkj
        obtain ⟨cv, h1, h2⟩ := intOp_spec (P := P) (w := w) (ι := ι) (t := t) ⟨hs1, hs2⟩ h
        exact ⟨cv, by simp only [Sem.run_bind, hg, Result.andThen_ok, h1], h2⟩
      · cases h
  · rename_i a c
    simp only [VR] at hx hy; obtain ⟨ba, rfl, rfl⟩ := hx; obtain ⟨bc, rfl, rfl⟩ := hy
    have hg := plain (.string ba) (.string bc) (by simp) (by simp)
    obtain ⟨cv, h1, h2⟩ := strOp_spec (P := P) (w := w) (ι := ι) (t := t) h
    exact ⟨cv, by simp only [Sem.run_bind, hg, Result.andThen_ok, h1], h2⟩
  · rename_i hnf hni hns
    -- what stands behind '==' and '!='
    have key : ∀ b, eqAt X 20 t x y = some b → (eqGuard op t ox oy cx cy).run P w = .ok () w ∧ (Op.equal t cx cy).run P w = .ok b w ∧
        (binOp .eql t cx cy).run P w = .ok (.bool b) w ∧ (binOp .neq t cx cy).run P w = .ok (.bool (!b)) w := fun b hb => by
      have he : (Op.equal t cx cy).run P w = .ok b w := eqAt_spec hX 20 t x y b hb Op.maxDepth (by decide) cx cy w hx hy
      have hform : (∃ a c, x = .bool a ∧ y = .bool c) ∨ (∃ a c, x = .ptr a ∧ y = .ptr c) ∨ (∃ a n c e a' n' c' e', x = .slc a n c e ∧ y = .slc a' n' c' e') ∨ (∃ a c, x = .map a ∧ y = .map c) ∨
          (x = .nilIface ∧ y = .nilIface ∧ ∃ ms, X.und t = some (.interface ms) ∧ ms.toList = []) ∨ (∃ u v, x = .nilIface ∧ y = .iface u v) ∨ (∃ u v, x = .iface u v ∧ y = .nilIface) ∨ (∃ a c, x = .agg a ∧ y = .agg c ∧ hasN t X.eqs = true) ∨ ((x = .nilFunc ∨ ∃ f a b, x = .func f a b) ∧ (y = .nilFunc ∨ ∃ f a b, y = .func f a b)) := by
        have hb' := hb
        simp only [eqAt] at hb'
        split at hb'
        case h_1 => exact .inl ⟨_, _, rfl, rfl⟩
        case h_2 => exact absurd rfl (hni _ _ _ _ rfl)
        case h_3 => exact absurd rfl (hns _ _ rfl)
        case h_4 => exact .inr (.inl ⟨_, _, rfl, rfl⟩)
        case h_5 => exact .inr (.inl ⟨_, _, rfl, rfl⟩)
        case h_6 => exact .inr (.inr (.inl ⟨_, _, _, _, _, _, _, _, rfl, rfl⟩))
        case h_7 => exact .inr (.inr (.inl ⟨_, _, _, _, _, _, _, _, rfl, rfl⟩))
        case h_8 => exact .inr (.inr (.inr (.inl ⟨_, _, rfl, rfl⟩)))
        case h_9 => exact .inr (.inr (.inr (.inl ⟨_, _, rfl, rfl⟩)))
        case h_10 =>
          rename_i ms hu
          split at hb'
          · rename_i hms; exact .inr (.inr (.inr (.inr (.inl ⟨rfl, rfl, _, hu, hms⟩))))
          · cases hb'
        case h_11 => exact .inr (.inr (.inr (.inr (.inr (.inl ⟨_, _, rfl, rfl⟩)))))
        case h_12 => exact .inr (.inr (.inr (.inr (.inr (.inr (.inl ⟨_, _, rfl, rfl⟩))))))
        case h_13 =>
          split at hb'
          · rename_i hok; exact .inr (.inr (.inr (.inr (.inr (.inr (.inr (.inl ⟨_, _, rfl, rfl, hok⟩)))))))
          · cases hb'
        case h_14 => exact .inr (.inr (.inr (.inr (.inr (.inr (.inr (.inr ⟨.inl rfl, .inl rfl⟩)))))))
        case h_15 => exact .inr (.inr (.inr (.inr (.inr (.inr (.inr (.inr ⟨.inl rfl, .inr ⟨_, _, _, rfl⟩⟩)))))))
        case h_16 => exact .inr (.inr (.inr (.inr (.inr (.inr (.inr (.inr ⟨.inr ⟨_, _, _, rfl⟩, .inl rfl⟩)))))))
        case h_17 => cases hb'
      rcases hform with ⟨a, c, rfl, rfl⟩ | ⟨a, c, rfl, rfl⟩ | ⟨a, n, c, e, a', n', c', e', rfl, rfl⟩ | ⟨a, c, rfl, rfl⟩ | ⟨rfl, rfl, ms, hu, hms⟩ | ⟨u, v, rfl, rfl⟩ | ⟨u, v, rfl, rfl⟩ | ⟨a, c, rfl, rfl, hok⟩ | ⟨hfx, hfy⟩
      · simp only [VR] at hx hy; subst hx; subst hy
        exact ⟨plain _ _ (by simp) (by simp), he, by simp [binOp, he], by simp [binOp, he]⟩
      · have f1 : ∃ p, cx = .pointer p := by
          cases a with
          | none => simp only [VR] at hx; exact ⟨_, hx⟩
          | some p => simp only [VR] at hx; obtain ⟨_, _, _, h⟩ := hx; exact ⟨_, h⟩
        have f2 : ∃ p, cy = .pointer p := by
          cases c with
          | none => simp only [VR] at hy; exact ⟨_, hy⟩
          | some p => simp only [VR] at hy; obtain ⟨_, _, _, h⟩ := hy; exact ⟨_, h⟩
        obtain ⟨p, rfl⟩ := f1; obtain ⟨q, rfl⟩ := f2
        exact ⟨plain _ _ (by simp) (by simp), he, by simp [binOp, he], by simp [binOp, he]⟩
      · have f1 : ∃ p i j, cx = .slice p i j := by
          cases a with
          | none => simp only [VR] at hx; obtain ⟨_, _, _, h⟩ := hx; exact ⟨_, _, _, h⟩
          | some p => simp only [VR] at hx; obtain ⟨_, _, _, _, _, h, _⟩ := hx; exact ⟨_, _, _, h⟩
        have f2 : ∃ p i j, cy = .slice p i j := by
          cases a' with
          | none => simp only [VR] at hy; obtain ⟨_, _, _, h⟩ := hy; exact ⟨_, _, _, h⟩
          | some p => simp only [VR] at hy; obtain ⟨_, _, _, _, _, h, _⟩ := hy; exact ⟨_, _, _, h⟩
        obtain ⟨p, i, j, rfl⟩ := f1; obtain ⟨q, k, l, rfl⟩ := f2
        exact ⟨plain _ _ (by simp) (by simp), he, by simp [binOp, he], by simp [binOp, he]⟩
      · have f1 : ∃ p, cx = .map p := by
          cases a with
          | none => simp only [VR] at hx; exact ⟨_, hx⟩
          | some p => simp only [VR] at hx; obtain ⟨_, _, _, h⟩ := hx; exact ⟨_, h⟩
        have f2 : ∃ p, cy = .map p := by
          cases c with
          | none => simp only [VR] at hy; exact ⟨_, hy⟩
          | some p => simp only [VR] at hy; obtain ⟨_, _, _, h⟩ := hy; exact ⟨_, h⟩
        obtain ⟨p, rfl⟩ := f1; obtain ⟨q, rfl⟩ := f2
        exact ⟨plain _ _ (by simp) (by simp), he, by simp [binOp, he], by simp [binOp, he]⟩
      · simp only [VR] at hx hy; subst hx; subst hy
        have hms' : ms = #[] := by
          cases ms; simpa using hms
        subst hms'
        have hg : (eqGuard op t ox oy .nilIface .nilIface).run P w = .ok () w := by
          have hin : ∀ d, (Op.eqGuardIn (d + 1) t .nilIface .nilIface).run P w = .ok false w := fun d => by
            simp [Op.eqGuardIn, run_und hX hu]
          have hin : (Op.eqGuardIn Op.maxDepth t .nilIface .nilIface).run P w = .ok false w := hin 9999
          unfold eqGuard
          cases op <;> simp [hin]
        exact ⟨hg, he, by simp [binOp, he], by simp [binOp, he]⟩
      · simp only [VR] at hx hy; subst hx; obtain ⟨_, rfl, _⟩ := hy
        have hg : (eqGuard op t ox oy .nilIface (.iface u ‹_›)).run P w = .ok () w := by
          unfold eqGuard
          cases op <;> simp
        exact ⟨hg, he, by simp [binOp, he], by simp [binOp, he]⟩
      · simp only [VR] at hx hy; subst hy; obtain ⟨_, rfl, _⟩ := hx
        exact ⟨plain _ _ (by simp) (by simp), he, by simp [binOp, he], by simp [binOp, he]⟩
      · simp only [VR] at hx hy; obtain ⟨cxs, rfl, _⟩ := hx; obtain ⟨cys, rfl, _⟩ := hy
        exact ⟨run_eqGuard_agg w op t ox oy cxs cys (hX.eqs t hok).2, he, by simp [binOp, he], by simp [binOp, he]⟩
      · have f1 : cx = .nilFunc ∨ ∃ f a b, cx = .func f a b := by
          rcases hfx with rfl | ⟨f, a, b, rfl⟩
          · simp only [VR] at hx; exact .inl hx
          · simp only [VR] at hx; obtain ⟨p, q, h, _⟩ := hx; exact .inr ⟨_, _, _, h⟩
        have f2 : cy = .nilFunc ∨ ∃ f a b, cy = .func f a b := by
          rcases hfy with rfl | ⟨f, a, b, rfl⟩
          · simp only [VR] at hy; exact .inl hy
          · simp only [VR] at hy; obtain ⟨p, q, h, _⟩ := hy; exact .inr ⟨_, _, _, h⟩
        rcases f1 with rfl | ⟨f, p, q, rfl⟩ <;> rcases f2 with rfl | ⟨g, u, v, rfl⟩ <;>
          exact ⟨plain _ _ (by simp) (by simp), he, by simp [binOp, he], by simp [binOp, he]⟩
    split at h
    · split at h
      · rename_i b hb; cases h
        obtain ⟨h1, _, h3, _⟩ := key b hb
        exact ⟨.bool b, by simp only [Sem.run_bind, h1, Result.andThen_ok, h3], by simp [VR]⟩
      · cases h
    · split at h
      · rename_i b hb; cases h
        obtain ⟨h1, _, _, h4⟩ := key b hb
        exact ⟨.bool (!b), by simp only [Sem.run_bind, h1, Result.andThen_ok, h4], by simp [VR]⟩
      · cases h
    · cases h

theorem nilTop_spec {op : BinOp} {t : TypeId} {ox oy : Operand} {v : AV} {w : World} (hc : (cstOp ox || cstOp oy) = true) (h : nilTop X op t = some v) :
    ∃ cv, (do eqGuard op t ox oy .nilIface .nilIface; binOp op t .nilIface .nilIface : Sem Value).run P w = .ok cv w ∧ VR ι v cv := by
  unfold nilTop at h
  split at h
  · rename_i ms hu
    have he : (Op.equal t .nilIface .nilIface).run P w = .ok true w := by
      have : ∀ d, (Op.equalIn (d + 1) t .nilIface .nilIface).run P w = .ok true w := fun d => by simp [Op.equalIn, run_und hX hu]
      exact this 9999
    have hg : (eqGuard op t ox oy .nilIface .nilIface).run P w = .ok () w := by
      cases ox with
      | const _ => unfold eqGuard; cases op <;> simp
      | _ =>
        cases oy with
        | const _ => unfold eqGuard; cases op <;> simp
        | _ => simp [cstOp] at hc
    split at h
    · cases h
      exact ⟨.bool true, by simp only [Sem.run_bind, hg, Result.andThen_ok]; simp [binOp, he], by simp [VR]⟩
    · cases h
      exact ⟨.bool false, by simp only [Sem.run_bind, hg, Result.andThen_ok]; simp [binOp, he], by simp [VR]⟩
    · cases h
  · cases h
theorem binTop_spec {op : BinOp} {t : TypeId} {ox oy : Operand} {x y v : AV} {cx cy : Value} {w : World} (h : binTop X op t (cstOp ox || cstOp oy) x y = some v) (hx : VR ι x cx) (hy : VR ι y cy) :
    ∃ cv, (do eqGuard op t ox oy cx cy; binOp op t cx cy : Sem Value).run P w = .ok cv w ∧ VR ι v cv := by
  have plain : ∀ (k j : IntKind) (a b : Int), (eqGuard op t ox oy (.int k a) (.int j b)).run P w = .ok () w := fun k j a b => by
    unfold eqGuard
    cases op <;> simp
  have nes : ∀ {k j : IntKind} {n m x y : Int}, neTop op k j n m = some v → k = j → n = m → x ≠ y → ∃ cv, (do eqGuard op t ox oy (.int k x) (.int k y); binOp op t (.int k x) (.int k y) : Sem Value).run P w = .ok cv w ∧ VR ι v cv := fun {k j n m x y} h hk hn hne => by
    unfold neTop at h
    split at h
    · split at h
      · cases h
        refine ⟨.bool false, ?_, by simp [VR]⟩
        simp only [Sem.run_bind, plain, Result.andThen_ok]
        simp [binOp, Op.intCmp, hne]
      · cases h
        refine ⟨.bool true, ?_, by simp [VR]⟩
        simp only [Sem.run_bind, plain, Result.andThen_ok]
        simp [binOp, Op.intCmp, hne]
      · cases h
    · cases h
  unfold binTop at h
  split at h
  · split at h
    · rename_i hc
      simp only [VR] at hx hy; subst hx; subst hy
      exact nilTop_spec hX hc h
    · exact binAt_spec hX h hx hy
  · rename_i k b m r j d
    simp only [VR] at hx hy
    obtain ⟨n, rfl, hn, hr⟩ := hx
    subst hy
    unfold clsTop at h
    split at h
    · split at h
      · rename_i hd
        cases h
        simp only [Bool.and_eq_true, decide_eq_true_eq] at hd
        obtain ⟨rfl, h1, h2⟩ := hd
        have h1 := Nat.blt_eq.mp h1
        have h2 := Nat.beq_eq.mp h2
        refine ⟨.int k (n % d : Nat), ?_, by
          simp only [VR]
          rw [← hr]
          congr 2
          exact (Nat.mod_mod_of_dvd n (Nat.dvd_of_mod_eq_zero h2)).symm⟩
        simp only [Sem.run_bind, plain, Result.andThen_ok]
        have hd0 : (Int.ofNat d) ≠ 0 := by simp; omega
        simp only [binOp, ne_eq, not_true_eq_false, if_false, Op.intDiv, hd0, Sem.run_pure]
        rw [show (Int.ofNat d) = (d : Int) from rfl, Int.ofNat_tmod]
      · cases h
    · cases h
  · rename_i k n j m
    simp only [VR] at hx hy
    obtain ⟨x, rfl, hne⟩ := hx
    subst hy
    have hk : k = j ∧ n = m := by
      unfold neTop at h
      split at h
      · rename_i hd; simpa using hd
      · cases h
    obtain ⟨rfl, rfl⟩ := hk
    exact nes h rfl rfl hne
  · rename_i j m k n
    simp only [VR] at hx hy
    obtain ⟨y, rfl, hne⟩ := hy
    subst hx
    have hk : k = j ∧ n = m := by
      unfold neTop at h
      split at h
      · rename_i hd; simpa using hd
      · cases h
    obtain ⟨rfl, rfl⟩ := hk
    exact nes h rfl rfl (Ne.symm hne)
  · exact binAt_spec hX h hx hy

omit hX in
theorem unAt_spec {op : UnOp} {x v : AV} {cx : Value} {w : World} (h : unAt op x = some v) (hx : VR ι x cx) : ∃ cv, (Op.unary op cx).run P w = .ok cv w ∧ VR ι v cv := by
  unfold unAt at h
  split at h
  · rename_i c; simp only [VR] at hx; subst hx; cases h; exact ⟨.bool (!c), by simp [Op.unary], by simp [VR]⟩
  · rename_i k n; simp only [VR] at hx; subst hx; cases h; exact ⟨.int k (k.wrap (0 - n)), by simp only [Op.unary, Op.intArith, Sem.run_pure], by simp only [VR, wr_eq]⟩
  · rename_i k n; simp only [VR] at hx; subst hx
    split at h
    · rename_i r hr; cases h; exact ⟨.int k r, by simp [Op.unary, bitsOf_spec hr], by simp [VR]⟩
    · cases h
  · cases h
end
end Go.Am
