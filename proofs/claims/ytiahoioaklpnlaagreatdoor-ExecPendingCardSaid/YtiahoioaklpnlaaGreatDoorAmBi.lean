/-
  COPIES, TEXTS AND BYTES, LENGTHS of the abstract machine against the model's; the built-in functions.
-/
import Derived.Test.YtiahoioaklpnlaaGreatDoorAmApp
namespace Go.Am
section
variable {P : Program} {X : Ctx} (hX : CtxOK P X) {ι : Inj} {s : St} {w : World}

theorem Str.of_push (bs : ByteArray) (b : UInt8) (n : Nat) (h : b.toNat = n) : Str.of (bs.push b) = ⟨(Str.of bs).len + 1, (Str.of bs).val * 256 + n⟩ := by
  subst h
  simp [Str.of, ByteArray.push, encL_append, encL_cons]
  simp [encL]

theorem bytesOf_go : ∀ (l : List AV) (cl : List Value) (a : Str) (v : Str) (bs : ByteArray), bytesOf.go l a = some v → VRs ι l cl → a = Str.of bs →
    ∃ bs', v = Str.of bs' ∧ ∃ ns : List Int, cl = ns.map (Value.int .u8) ∧ bs' = ns.foldl (fun r n => r.push (UInt8.ofNat n.toNat)) bs
  | [], cl, a, v, bs, h, hl, ha => by
    cases cl with
    | nil => simp only [bytesOf.go, Option.some.injEq] at h; subst h; exact ⟨bs, ha, [], rfl, rfl⟩
    | cons _ _ => simp [VRs] at hl
  | x :: l, cl, a, v, bs, h, hl, ha => by
    cases cl with
    | nil => simp [VRs] at hl
    | cons cx cl =>
      simp only [VRs] at hl
      unfold bytesOf.go at h
      split at h
      · rename_i e; cases e
      · rename_i n l' e
        cases e
        split at h
        · rename_i hn
          have hcx := hl.1.int
          subst hcx
          obtain ⟨bs', h1, ns, h2, h3⟩ := bytesOf_go _ cl _ v (bs.push (UInt8.ofNat n.toNat)) h hl.2 (by
            subst ha
            have hb : (UInt8.ofNat n.toNat).toNat = n.toNat := by
              rw [UInt8.toNat_ofNat']; omega
            exact (Str.of_push bs (UInt8.ofNat n.toNat) n.toNat hb).symm)
          exact ⟨bs', h1, n :: ns, by simp [h2], by simpa using h3⟩
        · cases h
      · cases h

theorem slc_cut {a : Option (Nat × Nat × Nat)} {len cap n : Nat} {x : Bool} {p : Option Addr} {ccap : Nat} (h : VR ι (.slc a len cap x) (.slice p len ccap)) (hn : n ≤ len) : VR ι (.slc a n n (match a with | none => true | some _ => false)) (.slice p n (match a with | none => 0 | some _ => ccap)) := by
  cases a with
  | none =>
    simp only [VR] at h ⊢
    obtain ⟨rfl, rfl, rfl, h4⟩ := h
    simp only [Value.slice.injEq] at h4
    obtain ⟨rfl, _, rfl⟩ := h4
    have hn0 : n = 0 := by omega
    simp [hn0]
  | some q =>
    obtain ⟨b, o, es⟩ := q
    simp only [VR] at h ⊢
    obtain ⟨cb, d, off, m, h1, h2, h3, h4, h5, h6, h7⟩ := h
    simp only [Value.slice.injEq, true_and] at h2
    obtain ⟨rfl, rfl⟩ := h2
    exact ⟨cb, d, off, _, h1, rfl, fun hh => h3 (.inl (by rcases hh with hh | hh; omega; cases hh)), Nat.le_refl _, by omega, (fun e => by cases e), h7⟩

/-- The first ones of what is copied. -/
theorem cut_spec {size n m : Nat} {y : AV} {cy : Value} {k : Nat} {new : List AV} (h : srcCells s size (cutAt n y) = some (k, new)) (hl : lenOf y = some m) (hn : n ≤ m) (hH : HR P ι s w) (hy : VR ι y cy) :
    ∃ news : List Value, (Builtin.firstCells size n cy).run P w = .ok news.toArray w ∧ VRs ι new news ∧ (Builtin.lenOf cy).run P w = .ok m w := by
  unfold lenOf at hl
  split at hl
  · rename_i a len cap x
    cases hl
    obtain ⟨p, ccap, rfl, h1, h2, h3, h4⟩ := slice_form hy
    simp only [cutAt] at h
    cases a with
    | none =>
      have hz := (h4 rfl).2.1
      have hp := (h4 rfl).1
      subst hp
      simp only [srcCells] at h
      split at h
      · cases h; exact ⟨[], by simp [Builtin.firstCells], by simp [VRs], by simp [Builtin.lenOf]⟩
      · cases h
    | some q =>
      have hc := slc_cut hy hn
      simp only at hc
      obtain ⟨news, g1, g2, g3, g4⟩ := src_spec (P := P) h hH hc
      have hk : k = n := by simp [Builtin.lenOf] at g3; omega
      subst hk
      refine ⟨news, ?_, g2, by simp [Builtin.lenOf]⟩
      cases p with
      | none => simpa [Builtin.firstCells] using g1
      | some p => simpa [Builtin.firstCells] using g1
  · rename_i a
    cases hl
    obtain ⟨bs, rfl, rfl⟩ := hy.str
    have hle : n ≤ bs.data.toList.length := by simpa [Str.of] using hn
    simp only [cutAt] at h
    rw [str_sub hle] at h
    obtain ⟨news, g1, g2, g3, g4⟩ := src_spec (P := P) (cy := .string (bs.extract 0 n)) h hH (by simp [VR])
    have hk : k = n := by
      simp only [Builtin.lenOf, Sem.run_pure, Result.ok.injEq, and_true, ByteArray.size_extract] at g3
      have : bs.size = bs.data.toList.length := by simp only [ByteArray.size, Array.length_toList]
      omega
    subst hk
    refine ⟨news, ?_, g2, by simp [Builtin.lenOf, Str.of]⟩
    simp only [Builtin.firstCells, Sem.run_pure] at g1 ⊢
    rw [← g1]
    have e : (bs.extract 0 k).extract 0 k = bs.extract 0 k := by rw [ByteArray.extract_extract]; simp
    rw [e]
  · cases hl

include hX in
theorem copyAt_sound {t ty : TypeId} {rest : List TypeId} {x y : AV} {cx cy : Value} {r : OR} (h : copyAt X t x y s = some r) (hH : HR P ι s w) (hx : VR ι x cx) (hy : VR ι y cy) :
    OpOK P ι s w r ((do pure (.value (← Builtin.copy_ (t :: rest).toArray ty #[cx, cy])) : Sem Next).run P w) := by
  unfold copyAt at h
  split at h
  · rename_i e hu
    split at h
    · rename_i size base len cap exact he
      obtain ⟨p, ccap, rfl, hcap, hlen, hex, hnil⟩ := slice_form hx
      unfold copyGo at h
      split at h
      · rename_i m hm
        unfold copyInto at h
        split at h
        · rename_i k new hsrc
          obtain ⟨news, h1, h2, h3⟩ := cut_spec (P := P) hsrc hm (Nat.min_le_left _ _) hH hy
          have hmin : Nat.min m len = min m len := rfl
          have run : ∀ w', (match p with | some a => storeCells a news | none => pure () : Sem Unit).run P w = .ok () w' →
              (do pure (.value (← Builtin.copy_ (t :: rest).toArray ty #[.slice p len ccap, cy])) : Sem Next).run P w = .ok (.value (.int .i64 (min m len : Nat))) w' := fun w' hs => by
            apply value_run
            simp only [Builtin.copy_, List.getElem?_toArray, List.getElem?_cons_zero, List.getElem?_cons_succ, Sem.run_bind, run_und hX hu, Result.andThen_ok, h3, run_size hX he, hmin, h1]
            cases p with
            | none => simp only [Sem.run_pure, Result.ok.injEq, true_and] at hs; subst hs; simp [goInt]
            | some a => simp only at hs; simp [hs, goInt]
          split at h
          · cases h
            have hp := (hnil rfl).1
            subst hp
            exact ⟨_, run w (by simp), by simp [VR]⟩
          · rename_i b off es
            split at h
            · rename_i h0
              cases h
              have h0 := Nat.beq_eq.mp h0
              refine ⟨_, run w ?_, by simp [VR]⟩
              have hc : news = [] := by
                have h5 : (Builtin.firstCells size 0 cy).run P w = .ok news.toArray w := by rw [← h0]; exact h1
                cases cy with
                | slice q _ _ =>
                  cases q with
                  | none => simp [Builtin.firstCells] at h5; first | exact h5 | exact h5.symm
                  | some q => simp [Builtin.firstCells, loadCells, loadCellsFrom] at h5; first | exact h5 | exact h5.symm
                | string bs => 
                  simp [Builtin.firstCells] at h5
                  first | exact h5 | exact h5.symm
                | _ => simp [Builtin.firstCells, stuck] at h5
              subst hc
              cases p <;> simp [storeCells]
            · rename_i c k' h0 hone hc
              split at h
              · rename_i c' hst
                cases h
                have hx0 := hx
                simp only [VR] at hx
                obtain ⟨cb, d, o, m0, hb, hcv, ho, hle1, hle2, hexx, hrm⟩ := hx
                simp only [Value.slice.injEq, true_and] at hcv
                obtain ⟨rfl, rfl⟩ := hcv
                have hlen0 : 0 < len := by
                  rcases Nat.eq_zero_or_pos len with e | e
                  · subst e; simp at h0
                  · exact e
                have ho := ho (.inl (by omega))
                subst ho
                obtain ⟨w', g1, g2, g3⟩ := hH.store (P := P) hb hc hst h2 hone
                exact ⟨_, w', _, .inl (run w' g1), by simp [VR], g2, g3⟩
              · cases h
            · cases h
        · cases h
      · cases h
    · cases h
  · cases h

include hX in
theorem opConvert_sound {a b : TypeId} {x : AV} {cx : Value} {r : OR} (h : opConvert X a b x s = some r) (hH : HR P ι s w) (hx : VR ι x cx) :
    OpOK P ι s w r ((do pure (.value (← convert a b cx)) : Sem Next).run P w) := by
  unfold opConvert at h
  split at h
  · rename_i d k k' n ha hb
    cases h
    have := hx.int
    subst this
    refine ⟨_, value_run (cv := .int k (k.wrap n)) ?_, by simp [VR, wr_eq]⟩
    simp [convert, run_und hX ha, run_und hX hb, Conv.intToInt]
  · rename_i d k k' b m r ha hb
    split at h
    · rename_i hfit
      cases h
      simp only [VR] at hx
      obtain ⟨n, rfl, hn, hr⟩ := hx
      refine ⟨_, value_run (cv := .int k (k.wrap n)) ?_, by
        simp only [VR]
        exact ⟨n, by rw [fits_wrap (fits_lt hfit hn)], hn, hr⟩⟩
      simp [convert, run_und hX ha, run_und hX hb, Conv.intToInt]
    · cases h
  · rename_i d v ha hb
    cases h
    obtain ⟨bs, rfl, rfl⟩ := hx.str
    refine ⟨_, value_run (cv := .string bs) ?_, hx⟩
    simp [convert, run_und hX ha, run_und hX hb]
  · rename_i e v ha hb
    obtain ⟨bs, rfl, rfl⟩ := hx.str
    unfold convBytes at h
    split at h
    · rename_i he
      split at h
      · rename_i hlen
        cases h
        have hrun := run_bytes_of_string (P := P) w a b e bs (und_spec hX ha) (und_spec hX hb) (und_spec hX he)
        have hge := grownCap_ge w bs.size 0 e
        have hsz : bs.size = (Str.of bs).len := by simp [Str.of]
        have hl : bs.data.toList.length = bs.size := by simp only [ByteArray.size, Array.length_toList]
        generalize grownCap w bs.size 0 e = G at hrun hge
        have hrow : (bytesRow bs G).size = G := by simp [bytesRow]; omega
        have e1 : s.newC (Tr.of (toBytes (Str.of bs) (Str.of bs).len)) (Str.of bs).len = s.new (.cells (Tr.of (toBytes (Str.of bs) (Str.of bs).len)) (Str.of bs).len) := by simp [St.newC]
        rw [e1]
        obtain ⟨g1, g2⟩ := hH.new (z := G) (w' := w.drew.alloc (.cells (bytesRow bs G) e ((bytesRow bs G).size, (bytesRow bs G).size + 1))) rfl ⟨rfl, rfl⟩ (ab := .cells (Tr.of (toBytes (Str.of bs) (Str.of bs).len)) (Str.of bs).len) (fun κ hκ => by
          refine ⟨_, e, _, heap_push_new, fun j hj => ⟨by rw [hrow]; exact hj, by rw [hrow]; simp only at hj ⊢; omega⟩, fun i v hiv => ?_⟩
          have hiv := Tr.get_of hiv
          rw [toBytes_all] at hiv
          have hi : i < bs.size := by
            have := (List.getElem?_eq_some_iff.1 hiv).1
            simpa using this
          refine ⟨by omega, by simp only; omega, .int .u8 (bs.data[i].toNat : Int), ?_, ?_⟩
          · simp only [Nat.zero_add, bytesRow]
            rw [Array.getElem?_append_left (by simpa using hi)]
            simp [Array.getElem?_eq_getElem (show i < bs.data.size from hi)]
          · have h1 : (bs.data.toList.map fun b => AV.int .u8 (b.toNat : Int))[i]? = some (.int .u8 (bs.data[i].toNat : Int)) := by
              simp [Array.getElem?_eq_getElem (show i < bs.data.size from hi)]
            rw [h1] at hiv
            cases hiv
            simp [VR])
        refine ⟨_, _, _, .inl (value_run hrun), ?_, g1, g2⟩
        simp only [VR, St.new]
        exact ⟨_, _, _, _, Inj.at_same _ _ _, by rw [hsz], fun _ => rfl, Nat.le_refl _, by omega, (fun e => by cases e), by simp⟩
      · cases h
    · cases h
  · rename_i e a' n cap ex ha hb
    obtain ⟨p, ccap, rfl, hcap, hlen, hex, hnil⟩ := slice_form hx
    unfold convStr at h
    split at h
    · rename_i he
      split at h
      · rename_i k l hsrc
        split at h
        · rename_i v hv
          cases h
          obtain ⟨news, h1, h2, h3⟩ := cut_spec (P := P) (size := 1) (n := n) (m := n) (y := .slc a' n cap ex) hsrc rfl (Nat.le_refl _) hH hx
          obtain ⟨bs', g1, ns, g2, g3⟩ := bytesOf_go l news _ v ByteArray.empty hv h2 (by simp [Str.of, encL])
          refine ⟨.string bs', value_run ?_, by subst g1; simp [VR]⟩
          rw [run_convert_bytes_string w a b e p n ccap (und_spec hX ha) (und_spec hX he) (und_spec hX hb)]
          cases p with
          | none =>
            simp only [Builtin.firstCells, Sem.run_pure, Result.ok.injEq, and_true] at h1
            have : news = [] := by
              have := congrArg Array.toList h1
              simpa using this.symm
            subst this
            cases ns with
            | nil => simp only [List.foldl_nil] at g3; subst g3; simp [Conv.bytesToString]
            | cons _ _ => simp at g2
          | some q =>
            rw [g3]
            refine run_bytesToString w q n ccap ns ?_
            rw [g2] at h1
            simpa [Builtin.firstCells] using h1
        · cases h
      · cases h
    · cases h
  · cases h
end
end Go.Am
