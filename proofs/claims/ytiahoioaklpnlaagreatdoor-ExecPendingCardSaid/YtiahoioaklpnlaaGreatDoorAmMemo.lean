/-
  A CLOSED CALL THAT WAS RUN ONCE, by itself: where it is met in a longer run, its answer is taken over, its blocks behind those that are there.
-/
import Derived.Test.YtiahoioaklpnlaaGreatDoorAmSorted
namespace Go.Am

mutual
/-- The same value, its blocks counted from n on. -/
def AV.up (K : List Nat) (n : Nat) : AV → AV
  | .ptr (some (b, o)) => match K[b]? with | some _ => .ptr (some (n + b, o)) | none => .top
  | .slc (some (b, o, es)) l c x => match K[b]? with | some _ => .slc (some (n + b, o, es)) l c x | none => .top
  | .map _ => .top
  | .func _ _ _ => .top
  | .yld _ => .top
  | .iface t v => .iface t (v.up K n)
  | .agg cs => .agg (AV.ups K n cs)
  | .tup vs => .tup (AV.ups K n vs)
  | .top => .top
  | .bool b => .bool b
  | .int k i => .int k i
  | .flt k b => .flt k b
  | .str s => .str s
  | .ptr none => .ptr none
  | .slc none l c x => .slc none l c x
  | .nilFunc => .nilFunc
  | .nilIface => .nilIface
  | .any => .any
  | .gp g o => .gp g o
  | .cls k b m r => .cls k b m r
  | .ne k i => .ne k i
def AV.ups (K : List Nat) (n : Nat) : List AV → List AV
  | [] => []
  | a :: l => a.up K n :: AV.ups K n l
end

mutual
/-- The same value, its blocks named by another list's places. -/
def AV.ren (K : List Nat) : AV → AV
  | .ptr (some (b, o)) => match K[b]? with | some k => .ptr (some (k, o)) | none => .yld 0
  | .slc (some (b, o, es)) l c x => match K[b]? with | some k => .slc (some (k, o, es)) l c x | none => .yld 0
  | .map r => .map r
  | .func f a b => .func f a b
  | .yld b => .yld b
  | .iface t v => .iface t (v.ren K)
  | .agg cs => .agg (AV.rens K cs)
  | .tup vs => .tup (AV.rens K vs)
  | .top => .top
  | .bool b => .bool b
  | .int k i => .int k i
  | .flt k b => .flt k b
  | .str s => .str s
  | .ptr none => .ptr none
  | .slc none l c x => .slc none l c x
  | .nilFunc => .nilFunc
  | .nilIface => .nilIface
  | .any => .any
  | .gp g o => .gp g o
  | .cls k b m r => .cls k b m r
  | .ne k i => .ne k i
def AV.rens (K : List Nat) : List AV → List AV
  | [] => []
  | a :: l => a.ren K :: AV.rens K l
end

mutual
/-- Are two values one? (Of functions, maps and their like it says no.) -/
def AV.eqb : AV → AV → Bool
  | .top, .top => true
  | .bool a, .bool b => a == b
  | .int k i, .int l j => decide (k = l) && decide (i = j)
  | .flt k i, .flt l j => decide (k = l) && Nat.beq i j
  | .str a, .str b => Str.beq a b
  | .ptr none, .ptr none => true
  | .ptr (some (b, o)), .ptr (some (c, p)) => Nat.beq b c && Nat.beq o p
  | .slc none l c x, .slc none m d y => Nat.beq l m && Nat.beq c d && (x == y)
  | .slc (some (b, o, e)) l c x, .slc (some (b', o', e')) m d y => Nat.beq b b' && Nat.beq o o' && Nat.beq e e' && Nat.beq l m && Nat.beq c d && (x == y)
  | .nilFunc, .nilFunc => true
  | .nilIface, .nilIface => true
  | .iface t v, .iface t' v' => decide (t = t') && AV.eqb v v'
  | .agg l, .agg m => AV.eqbs l m
  | .tup l, .tup m => AV.eqbs l m
  | _, _ => false
def AV.eqbs : List AV → List AV → Bool
  | [], [] => true
  | a :: l, b :: m => AV.eqb a b && AV.eqbs l m
  | _, _ => false
end
theorem Str.beq_eq {a b : Str} (h : Str.beq a b = true) : a = b := by
  obtain ⟨l, v⟩ := a
  obtain ⟨m, u⟩ := b
  simp only [Str.beq, Bool.and_eq_true, Nat.beq_eq] at h
  rw [h.1, h.2]
mutual
theorem AV.eqb_eq : ∀ {a b : AV}, AV.eqb a b = true → a = b := by
  intro a b h
  match a, b, h with
  | .top, .top, _ => rfl
  | .bool a, .bool b, h => simp only [AV.eqb, beq_iff_eq] at h; rw [h]
  | .int k i, .int l j, h => simp only [AV.eqb, Bool.and_eq_true, decide_eq_true_eq] at h; rw [h.1, h.2]
  | .flt k i, .flt l j, h => simp only [AV.eqb, Bool.and_eq_true, decide_eq_true_eq, Nat.beq_eq] at h; rw [h.1, h.2]
  | .str a, .str b, h => simp only [AV.eqb] at h; rw [Str.beq_eq h]
  | .ptr none, .ptr none, _ => rfl
  | .ptr (some (b, o)), .ptr (some (c, p)), h => simp only [AV.eqb, Bool.and_eq_true, Nat.beq_eq] at h; rw [h.1, h.2]
  | .slc none l c x, .slc none m d y, h => simp only [AV.eqb, Bool.and_eq_true, Nat.beq_eq, beq_iff_eq] at h; rw [h.1.1, h.1.2, h.2]
  | .slc (some (b, o, e)) l c x, .slc (some (b', o', e')) m d y, h =>
    simp only [AV.eqb, Bool.and_eq_true, Nat.beq_eq, beq_iff_eq] at h
    obtain ⟨⟨⟨⟨⟨h1, h2⟩, h3⟩, h4⟩, h5⟩, h6⟩ := h
    rw [h1, h2, h3, h4, h5, h6]
  | .nilFunc, .nilFunc, _ => rfl
  | .nilIface, .nilIface, _ => rfl
  | .iface t v, .iface t' v', h => simp only [AV.eqb, Bool.and_eq_true, decide_eq_true_eq] at h; rw [h.1, AV.eqb_eq h.2]
  | .agg l, .agg m, h => simp only [AV.eqb] at h; rw [AV.eqbs_eq h]
  | .tup l, .tup m, h => simp only [AV.eqb] at h; rw [AV.eqbs_eq h]
theorem AV.eqbs_eq : ∀ {l m : List AV}, AV.eqbs l m = true → l = m
  | [], [], _ => rfl
  | a :: l, b :: m, h => by
    simp only [AV.eqbs, Bool.and_eq_true] at h
    rw [AV.eqb_eq h.1, AV.eqbs_eq h.2]
  | [], _ :: _, h => by simp [AV.eqbs] at h
  | _ :: _, [], h => by simp [AV.eqbs] at h
end

mutual
theorem VR.up {κ μ : Inj} {n : Nat} {K : List Nat} (h : ∀ b k x, K[b]? = some k → κ k = some x → μ (n + b) = some x) : ∀ {a : AV} {v : Value}, VR κ (a.ren K) v → VR μ (a.up K n) v
  | .top, _, _ => by simp [AV.up, VR]
  | .bool _, _, hv => by simpa [AV.up, AV.ren, VR] using hv
  | .int _ _, _, hv => by simpa [AV.up, AV.ren, VR] using hv
  | .flt _ _, _, hv => by simpa [AV.up, AV.ren, VR] using hv
  | .str _, _, hv => by simpa [AV.up, AV.ren, VR] using hv
  | .ptr none, _, hv => by simpa [AV.up, AV.ren, VR] using hv
  | .ptr (some (b, o)), v, hv => by
    simp only [AV.ren] at hv
    cases hk : K[b]? with
    | none => simp [AV.up, hk, VR]
    | some k =>
      rw [hk] at hv
      simp only [VR] at hv
      obtain ⟨c, d, h1, h2⟩ := hv
      simp only [AV.up, hk, VR]
      exact ⟨c, d, h _ _ _ hk h1, h2⟩
  | .slc none _ _ _, _, hv => by simpa [AV.up, AV.ren, VR] using hv
  | .slc (some (b, o, es)) l c x, v, hv => by
    simp only [AV.ren] at hv
    cases hk : K[b]? with
    | none => simp [AV.up, hk, VR]
    | some k =>
      rw [hk] at hv
      simp only [VR] at hv
      obtain ⟨cb, d, off, m, h1, h2⟩ := hv
      simp only [AV.up, hk, VR]
      exact ⟨cb, d, off, m, h _ _ _ hk h1, h2⟩
  | .map _, _, _ => by simp [AV.up, VR]
  | .func _ _ _, _, _ => by simp [AV.up, VR]
  | .nilFunc, _, hv => by simpa [AV.up, AV.ren, VR] using hv
  | .iface t u, v, hv => by
    simp only [AV.ren, VR] at hv
    obtain ⟨x, h1, h2⟩ := hv
    simp only [AV.up, VR]
    exact ⟨x, h1, VR.up h h2⟩
  | .nilIface, _, hv => by simpa [AV.up, AV.ren, VR] using hv
  | .agg cs, v, hv => by
    simp only [AV.ren, VR] at hv
    obtain ⟨x, h1, h2⟩ := hv
    simp only [AV.up, VR]
    exact ⟨x, h1, VRs.up h h2⟩
  | .tup cs, v, hv => by
    simp only [AV.ren, VR] at hv
    obtain ⟨x, h1, h2⟩ := hv
    simp only [AV.up, VR]
    exact ⟨x, h1, VRs.up h h2⟩
  | .any, _, hv => by simpa [AV.up, AV.ren, VR] using hv
  | .yld _, _, _ => by simp [AV.up, VR]
  | .gp _ _, _, hv => by simpa [AV.up, AV.ren, VR] using hv
  | .cls _ _ _ _, _, hv => by simpa [AV.up, AV.ren, VR] using hv
  | .ne _ _, _, hv => by simpa [AV.up, AV.ren, VR] using hv
theorem VRs.up {κ μ : Inj} {n : Nat} {K : List Nat} (h : ∀ b k x, K[b]? = some k → κ k = some x → μ (n + b) = some x) : ∀ {l : List AV} {m : List Value}, VRs κ (AV.rens K l) m → VRs μ (AV.ups K n l) m
  | [], [], _ => by simp [AV.ups, VRs]
  | [], _ :: _, hv => by simp [AV.rens, VRs] at hv
  | _ :: _, [], hv => by simp [AV.rens, VRs] at hv
  | a :: l, v :: m, hv => by
    simp only [AV.rens, VRs, AV.ups] at hv ⊢
    exact ⟨VR.up h hv.1, VRs.up h hv.2⟩
end

mutual
/-- No block is named. -/
def AV.flat : AV → Bool
  | .top | .bool _ | .int _ _ | .flt _ _ | .str _ | .ptr none | .slc none _ _ _ | .nilFunc | .nilIface | .any => true
  | .iface _ v => v.flat
  | .agg cs => AV.flats cs
  | .tup cs => AV.flats cs
  | _ => false
def AV.flats : List AV → Bool
  | [] => true
  | a :: l => a.flat && AV.flats l
end
mutual
theorem VR.flat {ι κ : Inj} : ∀ {a : AV} {v : Value}, a.flat = true → VR ι a v → VR κ a v
  | .top, _, _, _ => by simp [VR]
  | .bool _, _, _, hv => by simpa [VR] using hv
  | .int _ _, _, _, hv => by simpa [VR] using hv
  | .flt _ _, _, _, hv => by simpa [VR] using hv
  | .str _, _, _, hv => by simpa [VR] using hv
  | .ptr none, _, _, hv => by simpa [VR] using hv
  | .ptr (some _), _, hf, _ => by simp [AV.flat] at hf
  | .slc none _ _ _, _, _, hv => by simpa [VR] using hv
  | .slc (some _) _ _ _, _, hf, _ => by simp [AV.flat] at hf
  | .map _, _, hf, _ => by simp [AV.flat] at hf
  | .func _ _ _, _, hf, _ => by simp [AV.flat] at hf
  | .nilFunc, _, _, hv => by simpa [VR] using hv
  | .iface t u, v, hf, hv => by
    simp only [AV.flat] at hf
    simp only [VR] at hv ⊢
    obtain ⟨x, h1, h2⟩ := hv
    exact ⟨x, h1, VR.flat hf h2⟩
  | .nilIface, _, _, hv => by simpa [VR] using hv
  | .agg cs, v, hf, hv => by
    simp only [AV.flat] at hf
    simp only [VR] at hv ⊢
    obtain ⟨x, h1, h2⟩ := hv
    exact ⟨x, h1, VRs.flat hf h2⟩
  | .tup cs, v, hf, hv => by
    simp only [AV.flat] at hf
    simp only [VR] at hv ⊢
    obtain ⟨x, h1, h2⟩ := hv
    exact ⟨x, h1, VRs.flat hf h2⟩
  | .any, _, _, hv => by simpa [VR] using hv
  | .yld _, _, hf, _ => by simp [AV.flat] at hf
  | .gp _ _, _, hf, _ => by simp [AV.flat] at hf
  | .cls _ _ _ _, _, hf, _ => by simp [AV.flat] at hf
  | .ne _ _, _, hf, _ => by simp [AV.flat] at hf
theorem VRs.flat {ι κ : Inj} : ∀ {l : List AV} {m : List Value}, AV.flats l = true → VRs ι l m → VRs κ l m
  | [], [], _, _ => by simp [VRs]
  | [], _ :: _, _, hv => by simp [VRs] at hv
  | _ :: _, [], _, hv => by simp [VRs] at hv
  | a :: l, v :: m, hf, hv => by
    simp only [AV.flats, Bool.and_eq_true] at hf
    simp only [VRs] at hv ⊢
    exact ⟨VR.flat hf.1 hv.1, VRs.flat hf.2 hv.2⟩
end

/-- A call, and what became of it: K names the blocks of its own run that are kept; bl is what they hold; gl is what it knew of package-level variables. -/
structure Memo where
  args : List AV
  v : AV
  K : List Nat
  bl : List (List AV)
  gl : List (Nat × List AV)
  /-- the places in K of blocks that may begin within one of the model's -/
  sh : List Nat
noncomputable def glTr : List (Nat × List AV) → Tr (Tr AV)
  | [] => .e
  | (g, c) :: l => (glTr l).put g (Tr.of c)
noncomputable def Memo.st0 (m : Memo) : St := { h := .e, nx := 0, gl := glTr m.gl, sh := [] }
noncomputable def cellsHave (c : Tr AV) : Nat → List AV → Bool
  | _, [] => true
  | i, a :: l => (match c.get i with | some v => AV.eqb a v | none => false) && cellsHave c (i + 1) l
noncomputable def glHas (t : Tr (Tr AV)) : List (Nat × List AV) → Bool
  | [] => true
  | (g, c) :: l => (match t.get g with | some x => cellsHave x 0 c | none => false) && glHas t l
noncomputable def okBlocks (t : St) (K : List Nat) : List Nat → List (List AV) → Bool
  | [], [] => true
  | k :: ks, b :: bs => (match t.h.get k with | some (.cells c n) => Nat.beq n b.length && cellsHave c 0 (AV.rens K b) | _ => false) && okBlocks t K ks bs
  | _, _ => false
def nodupN : List Nat → Bool
  | [] => true
  | a :: l => !hasN a l && nodupN l
def okSh (tsh msh : List Nat) : Nat → List Nat → Bool
  | _, [] => true
  | i, k :: ks => (hasN i msh || !hasN k tsh) && okSh tsh msh (i + 1) ks
def shUp (n : Nat) : List Nat → List Nat → List Nat
  | [], l => l
  | i :: is, l => (n + i) :: shUp n is l
noncomputable def Memo.ok (m : Memo) : Option CR → Bool
  | some (.ret v t) => AV.eqb (m.v.ren m.K) v && okBlocks t m.K m.K m.bl && nodupN m.K && okSh t.sh m.sh 0 m.K && AV.flats m.args
  | _ => false
noncomputable def addAll (K : List Nat) (n : Nat) : List (List AV) → St → St
  | [], s => s
  | b :: bs, s => addAll K n bs (s.new (.cells (Tr.of (AV.ups K n b)) b.length)).2
noncomputable def Memo.own (m : Memo) : List AV → St → Option CR := fun args s =>
  if AV.eqbs args m.args && glHas s.gl m.gl then some (.ret (m.v.up m.K s.nx) { addAll m.K s.nx m.bl s with sh := shUp s.nx m.sh s.sh }) else none

theorem addAll_nx (K : List Nat) (n : Nat) : ∀ (bl : List (List AV)) (s : St), (addAll K n bl s).nx = s.nx + bl.length ∧ (addAll K n bl s).gl = s.gl ∧ (addAll K n bl s).sh = s.sh
  | [], s => ⟨rfl, rfl, rfl⟩
  | b :: bs, s => by
    obtain ⟨h1, h2, h3⟩ := addAll_nx K n bs (s.new (.cells (Tr.of (AV.ups K n b)) b.length)).2
    refine ⟨?_, h2, h3⟩
    rw [addAll, h1]
    show s.nx + 1 + bs.length = s.nx + (bs.length + 1)
    omega
theorem addAll_get (K : List Nat) (n : Nat) : ∀ (bl : List (List AV)) (s : St) (b : Nat) (ab : AB), (addAll K n bl s).h.get b = some ab →
    (∃ (i : Nat) (l : List AV), b = s.nx + i ∧ bl[i]? = some l ∧ ab = .cells (Tr.of (AV.ups K n l)) l.length) ∨ ((b < s.nx ∨ s.nx + bl.length ≤ b) ∧ s.h.get b = some ab)
  | [], s, b, ab, h => .inr ⟨by simp; omega, h⟩
  | x :: bs, s, b, ab, h => by
    rw [addAll] at h
    rcases addAll_get K n bs _ b ab h with ⟨i, l, h1, h2, h3⟩ | ⟨h1, h2⟩
    · refine .inl ⟨i + 1, l, ?_, by simpa using h2, h3⟩
      have : (s.new (.cells (Tr.of (AV.ups K n x)) x.length)).2.nx = s.nx + 1 := rfl
      omega
    · have e : (s.new (.cells (Tr.of (AV.ups K n x)) x.length)).2.nx = s.nx + 1 := rfl
      rw [e] at h1
      rcases Tr.get_put h2 with ⟨h3, h4⟩ | ⟨h3, h4⟩
      · exact .inl ⟨0, x, h3, rfl, h4.symm⟩
      · refine .inr ⟨?_, h4⟩
        simp only [List.length_cons]
        omega
theorem cellsHave_get {c : Tr AV} : ∀ {l : List AV} {i : Nat}, cellsHave c i l = true → ∀ (j : Nat) (a : AV), l[j]? = some a → c.get (i + j) = some a
  | [], _, _, j, a, h => by simp at h
  | x :: l, i, h, j, a, hj => by
    simp only [cellsHave, Bool.and_eq_true] at h
    obtain ⟨h1, h2⟩ := h
    cases j with
    | zero =>
      simp only [List.getElem?_cons_zero, Option.some.injEq] at hj
      subst hj
      split at h1
      · rename_i v hv
        rw [AV.eqb_eq h1]; exact hv
      · cases h1
    | succ j =>
      have := cellsHave_get h2 j a (by simpa using hj)
      rw [← this]
      congr 1
      omega
theorem rens_get {K : List Nat} : ∀ {l : List AV} {j : Nat} {a : AV}, l[j]? = some a → (AV.rens K l)[j]? = some (a.ren K)
  | [], j, a, h => by simp at h
  | x :: l, 0, a, h => by simp only [List.getElem?_cons_zero, Option.some.injEq] at h; subst h; simp [AV.rens]
  | x :: l, j + 1, a, h => by simp only [AV.rens, List.getElem?_cons_succ] at h ⊢; exact rens_get h
theorem ups_get {K : List Nat} {n : Nat} : ∀ {l : List AV} {j : Nat} {a : AV}, (AV.ups K n l)[j]? = some a → ∃ x, l[j]? = some x ∧ a = x.up K n
  | [], j, a, h => by simp [AV.ups] at h
  | x :: l, 0, a, h => by simp only [AV.ups, List.getElem?_cons_zero, Option.some.injEq] at h; exact ⟨x, rfl, h.symm⟩
  | x :: l, j + 1, a, h => by simp only [AV.ups, List.getElem?_cons_succ] at h ⊢; exact ups_get h
theorem glHas_get {t : Tr (Tr AV)} : ∀ {l : List (Nat × List AV)}, glHas t l = true → ∀ g c, (glTr l).get g = some c → ∃ x, t.get g = some x ∧ ∀ i v, c.get i = some v → x.get i = some v
  | [], _, g, c, h => by simp [glTr, Tr.get_e] at h
  | (g0, c0) :: l, h, g, c, hg => by
    simp only [glHas, Bool.and_eq_true] at h
    obtain ⟨h1, h2⟩ := h
    rcases Tr.get_put hg with ⟨e1, e2⟩ | ⟨_, h3⟩
    · subst e1; subst e2
      split at h1
      · rename_i x hx
        refine ⟨x, hx, fun i v hi => ?_⟩
        have := cellsHave_get h1 i v (Tr.get_of hi)
        simpa using this
      · cases h1
    · exact glHas_get h2 g c h3
theorem okBlocks_get {t : St} {K : List Nat} : ∀ {ks : List Nat} {bl : List (List AV)}, okBlocks t K ks bl = true → ks.length = bl.length ∧ ∀ (i : Nat) (l : List AV), bl[i]? = some l → ∃ (k : Nat) (c : Tr AV) (n : Nat), ks[i]? = some k ∧ t.h.get k = some (.cells c n) ∧ n = l.length ∧ ∀ (j : Nat) (a : AV), l[j]? = some a → c.get j = some (a.ren K)
  | [], [], _ => ⟨rfl, fun i l h => by simp at h⟩
  | [], _ :: _, h => by simp [okBlocks] at h
  | _ :: _, [], h => by simp [okBlocks] at h
  | k :: ks, b :: bs, h => by
    simp only [okBlocks, Bool.and_eq_true] at h
    obtain ⟨h1, h2⟩ := h
    obtain ⟨e, hr⟩ := okBlocks_get h2
    refine ⟨by simp [e], fun i l hl => ?_⟩
    cases i with
    | zero =>
      simp only [List.getElem?_cons_zero, Option.some.injEq] at hl
      subst hl
      split at h1
      · rename_i c n hc
        simp only [Bool.and_eq_true, Nat.beq_eq] at h1
        refine ⟨k, c, n, rfl, hc, h1.1, fun j a hj => ?_⟩
        have := cellsHave_get h1.2 j _ (rens_get hj)
        simpa using this
      · cases h1
    | succ i =>
      obtain ⟨k', c, n, g1, g2⟩ := hr i l (by simpa using hl)
      exact ⟨k', c, n, by simpa using g1, g2⟩
theorem hasN_mem {a : Nat} : ∀ {l : List Nat}, a ∈ l → hasN a l = true
  | [], h => by cases h
  | b :: l, h => by
    simp only [hasN]
    split
    · rfl
    · rename_i e
      have hne : a ≠ b := fun x => by subst x; simp [Nat.beq_refl] at e
      rcases List.mem_cons.mp h with x | x
      · exact absurd x hne
      · exact hasN_mem x
theorem nodupN_inj : ∀ {K : List Nat}, nodupN K = true → ∀ (i j k : Nat), K[i]? = some k → K[j]? = some k → i = j
  | [], _, i, j, k, h, _ => by simp at h
  | a :: l, h, i, j, k, hi, hj => by
    simp only [nodupN, Bool.and_eq_true, Bool.not_eq_true'] at h
    cases i with
    | zero =>
      cases j with
      | zero => rfl
      | succ j =>
        simp only [List.getElem?_cons_zero, Option.some.injEq, List.getElem?_cons_succ] at hi hj
        subst hi
        have := hasN_mem (List.mem_of_getElem? hj)
        rw [h.1] at this; cases this
    | succ i =>
      cases j with
      | zero =>
        simp only [List.getElem?_cons_zero, Option.some.injEq, List.getElem?_cons_succ] at hi hj
        subst hj
        have := hasN_mem (List.mem_of_getElem? hi)
        rw [h.1] at this; cases this
      | succ j =>
        simp only [List.getElem?_cons_succ] at hi hj
        rw [nodupN_inj h.2 i j k hi hj]

theorem okSh_get {tsh msh : List Nat} : ∀ {K : List Nat} {i : Nat}, okSh tsh msh i K = true → ∀ (j k : Nat), K[j]? = some k → hasN (i + j) msh = false → hasN k tsh = false
  | [], i, h, j, k, hk, _ => by simp at hk
  | x :: K, i, h, j, k, hk, hn => by
    simp only [okSh, Bool.and_eq_true, Bool.or_eq_true, Bool.not_eq_true'] at h
    cases j with
    | zero =>
      simp only [List.getElem?_cons_zero, Option.some.injEq] at hk
      subst hk
      rcases h.1 with h1 | h1
      · rw [Nat.add_zero] at hn; rw [hn] at h1; cases h1
      · exact h1
    | succ j => exact okSh_get h.2 j k (by simpa using hk) (by rw [← hn]; congr 1; omega)
theorem hasN_cons {a b : Nat} {l : List Nat} (h : hasN a (b :: l) = false) : a ≠ b ∧ hasN a l = false := by
  simp only [hasN] at h
  split at h
  · cases h
  · rename_i e
    exact ⟨fun x => by subst x; simp [Nat.beq_refl] at e, h⟩
theorem hasN_out {a : Nat} : ∀ {l : List Nat}, a ∉ l → hasN a l = false
  | [], _ => rfl
  | b :: l, h => by
    simp only [List.mem_cons, not_or] at h
    simp only [hasN]
    split
    · rename_i e; exact absurd (Nat.eq_of_beq_eq_true e) h.1
    · exact hasN_out h.2
theorem shUp_old {n b : Nat} : ∀ {ms l : List Nat}, hasN b (shUp n ms l) = false → hasN b l = false
  | [], _, h => h
  | _ :: is, _, h => shUp_old (ms := is) (hasN_cons h).2
theorem shUp_new {n i : Nat} : ∀ {ms l : List Nat}, hasN (n + i) (shUp n ms l) = false → hasN i ms = false
  | [], l, h => rfl
  | j :: js, l, h => by
    obtain ⟨h1, h2⟩ := hasN_cons h
    have := shUp_new (ms := js) h2
    simp only [hasN]
    split
    · rename_i e; have := Nat.eq_of_beq_eq_true e; omega
    · exact this
/-- What a memo says is so. -/
theorem memo_own {P : Program} {X : Ctx} (hX : CtxOK P X) (hF : ∀ f fn, X.fns.get f = some fn → fnOK fn = true) {own : OwnF} (ho : OwnOK P own) {n : Nat} {f : FuncId} (m : Memo)
    (h : m.ok (evCall X own n f m.args m.st0) = true) : OwnOne P f m.own := by
  intro args s r hr ι w cargs hv hH
  unfold Memo.own at hr
  split at hr
  · rename_i hc
    cases hr
    simp only [Bool.and_eq_true] at hc
    obtain ⟨hca, hcg⟩ := hc
    have ea := AV.eqbs_eq hca
    subst ea
    unfold Memo.ok at h
    split at h
    · rename_i v t he
      simp only [Bool.and_eq_true] at h
      obtain ⟨⟨⟨⟨q1, q2⟩, q3⟩, q4⟩, q5⟩ := h
      have hno : ∀ cb, ¬ Own Inj.nil m.st0 cb := fun cb ⟨b, d, ab, h, _⟩ => by cases h
      have hH0 : HR P Inj.nil m.st0 w := by
        refine ⟨fun g c hg => ?_, fun _ _ _ h => (by cases h), fun _ _ h => (by cases h), fun _ _ _ _ h => (by cases h), fun _ _ _ _ _ _ _ h => (by cases h)⟩
        obtain ⟨x, hx, hxc⟩ := glHas_get hcg g c hg
        obtain ⟨_, cs, e, fz, h2, h3⟩ := hH.gl g x hx
        exact ⟨hno g, cs, e, fz, h2, fun i v hi => h3 i v (hxc i v hi)⟩
      obtain ⟨e1, e2⟩ := evCall_sound hX hF ho n he (VRs.flat q5 hv) hH0
      refine .inl ⟨e1, CallsIn.mono e2 fun e w' hp => ?_⟩
      cases e with
      | panicked c => obtain ⟨v', s'', e, _⟩ := hp; cases e
      | outgrown => exact hp.elim
      | returned cv =>
        obtain ⟨v', t', e, κ, g1, g2, g3⟩ := hp
        cases e
        obtain ⟨hlen, hbl⟩ := okBlocks_get q2
        -- the images of what is new lie beyond what was there
        have far : ∀ k cb d ab, κ k = some (cb, d) → t.h.get k = some ab → w.heap.size ≤ cb := fun k cb d ab h1 h2 => by
          rcases Nat.lt_or_ge cb w.heap.size with hlt | hge
          · exact absurd ⟨k, d, ab, h1, h2⟩ (g3.keep cb hlt (hno cb)).2
          · exact hge
        let μ : Inj := fun b => if b < s.nx then ι b else match m.K[b - s.nx]? with | some k => κ k | none => none
        have μold : ∀ b, b < s.nx → μ b = ι b := fun b hb => by show (if b < s.nx then ι b else _) = _; rw [if_pos hb]
        have μnew : ∀ i, μ (s.nx + i) = match m.K[i]? with | some k => κ k | none => none := fun i => by
          show (if s.nx + i < s.nx then _ else _) = _
          rw [if_neg (by omega), Nat.add_sub_cancel_left]
        have μK : ∀ b k x, m.K[b]? = some k → κ k = some x → μ (s.nx + b) = some x := fun b k x h1 h2 => by rw [μnew, h1]; exact h2
        have hle : ι.le μ := fun b x hb => by rw [μold b (hH.dom b x hb)]; exact hb
        obtain ⟨an, ag, ash⟩ := addAll_nx m.K s.nx m.bl s
        have live : ∀ b cb d ab, μ b = some (cb, d) → (addAll m.K s.nx m.bl s).h.get b = some ab →
            (b < s.nx ∧ ι b = some (cb, d) ∧ s.h.get b = some ab) ∨ (∃ (i : Nat) (l : List AV) (k : Nat) (c : Tr AV) (nn : Nat), b = s.nx + i ∧ m.bl[i]? = some l ∧ ab = .cells (Tr.of (AV.ups m.K s.nx l)) l.length ∧ m.K[i]? = some k ∧ κ k = some (cb, d) ∧ t.h.get k = some (.cells c nn) ∧ nn = l.length ∧ ∀ (j : Nat) (a : AV), l[j]? = some a → c.get j = some (a.ren m.K)) := by
          intro b cb d ab hb hg
          rcases addAll_get m.K s.nx m.bl s b ab hg with ⟨i, l, h1, h2, h3⟩ | ⟨h1, h2⟩
          · obtain ⟨k, c, nn, k1, k2, k3, k4⟩ := hbl i l h2
            subst h1
            rw [μnew, k1] at hb
            exact .inr ⟨i, l, k, c, nn, rfl, h2, h3, k1, hb, k2, k3, k4⟩
          · rcases Nat.lt_or_ge b s.nx with hlt | hge
            · rw [μold b hlt] at hb
              exact .inl ⟨hlt, hb, h2⟩
            · exfalso
              obtain ⟨i, rfl⟩ : ∃ i, b = s.nx + i := ⟨b - s.nx, by omega⟩
              rw [μnew] at hb
              have : m.K[i]? = none := List.getElem?_eq_none (by omega)
              rw [this] at hb
              cases hb
        have hE : Ext ι s w μ { addAll m.K s.nx m.bl s with sh := shUp s.nx m.sh s.sh } w' := by
          refine ⟨hle, g3.size, fun cb hcb ho' => ⟨(g3.keep cb hcb (hno cb)).1, ?_⟩, fun b hb => μold b hb, by show s.nx ≤ (addAll m.K s.nx m.bl s).nx; omega, g3.kin⟩
          rintro ⟨b, d, ab, hb, hg⟩
          rcases live b cb d ab hb hg with ⟨_, h2, h3⟩ | ⟨i, l, k, c, nn, _, _, _, _, h5, h6, _⟩
          · exact ho' ⟨b, d, ab, h2, h3⟩
          · have := far k cb d _ h5 h6; omega
        refine ⟨_, _, rfl, μ, VR.up μK (by rw [AV.eqb_eq q1]; exact g1), ⟨hH.gl.ext hE ag, ?_, ?_, ?_, ?_⟩, hE⟩
        · intro b cb d hb hs
          replace hs : hasN b (shUp s.nx m.sh s.sh) = false := hs
          rcases Nat.lt_or_ge b s.nx with hlt | hge
          · rw [μold b hlt] at hb
            exact hH.base b cb d hb (shUp_old hs)
          · obtain ⟨i, rfl⟩ : ∃ i, b = s.nx + i := ⟨b - s.nx, by omega⟩
            rw [μnew] at hb
            cases hk : m.K[i]? with
            | none => rw [hk] at hb; cases hb
            | some k =>
              rw [hk] at hb
              exact g2.base k cb d hb (okSh_get q4 i k hk (by rw [Nat.zero_add]; exact shUp_new hs))
        · intro b x hb
          show b < (addAll m.K s.nx m.bl s).nx
          rcases Nat.lt_or_ge b s.nx with hlt | hge
          · omega
          · obtain ⟨i, rfl⟩ : ∃ i, b = s.nx + i := ⟨b - s.nx, by omega⟩
            rw [μnew] at hb
            cases hk : m.K[i]? with
            | none => rw [hk] at hb; cases hb
            | some k =>
              have := (List.getElem?_eq_some_iff.mp hk).1
              omega
        · intro b cb d ab hb hg
          rcases live b cb d ab hb hg with ⟨_, h2, h3⟩ | ⟨i, l, k, c, nn, _, _, h3, _, h5, h6, h7, h8⟩
          · have hbr := hH.br b cb d ab h2 h3
            exact hbr.frame (g3.keep cb hbr.lt (hno cb)).1 hle
          · subst h3
            obtain ⟨cs, e, fz, z1, z2, z3⟩ := g2.br k cb d _ h5 h6
            refine ⟨cs, e, fz, z1, z2, fun j a hj => ?_⟩
            obtain ⟨x, y1, y2⟩ := ups_get (Tr.get_of hj)
            obtain ⟨w1, w2, cv', w3, w4⟩ := z3 j _ (h8 j x y1)
            subst y2
            exact ⟨by omega, w2, cv', w3, VR.up μK w4⟩
        · intro b b' cb d d' ab ab' h1 h2 k1 k2
          rcases live b cb d ab h1 k1 with ⟨_, x2, x3⟩ | ⟨i, l, k, c, nn, x1, _, _, x4, x5, x6, _⟩ <;> rcases live b' cb d' ab' h2 k2 with ⟨_, y2, y3⟩ | ⟨i', l', k', c', nn', y1, _, _, y4, y5, y6, _⟩
          · exact hH.inj b b' cb d d' ab ab' x2 y2 x3 y3
          · have := (hH.br b cb d ab x2 x3).lt
            have := far k' cb d' _ y5 y6
            omega
          · have := (hH.br b' cb d' ab' y2 y3).lt
            have := far k cb d _ x5 x6
            omega
          · have ek := g2.inj k k' cb d d' _ _ x5 y5 x6 y6
            subst ek
            rw [x1, y1, nodupN_inj q3 i i' k x4 y4]
    · cases h
  · cases hr

noncomputable def memosOwn : List Memo → List AV → St → Option CR
  | [], _, _ => none
  | m :: l, args, s => match m.own args s with
    | some r => some r
    | none => memosOwn l args s
theorem memos_own {P : Program} {f : FuncId} : ∀ {l : List Memo}, (∀ m ∈ l, OwnOne P f m.own) → OwnOne P f (memosOwn l)
  | [], _ => fun args s r hr => by cases hr
  | m :: l, h => fun args s r hr => by
    unfold memosOwn at hr
    split at hr
    · rename_i r' h1
      cases hr
      exact h m (by simp) args s _ h1
    · exact memos_own (l := l) (fun x hx => h x (by simp [hx])) args s r hr
end Go.Am
