/-
  slices.Sorted(maps.Keys(m)) AT STRINGS: by its contract.
-/
import Derived.Test.YtiahoioaklpnlaaGreatDoorAmExt
import Derived.Sort.KeysCollected
import Derived.Sort.Walk0
import Derived.StringKeys
namespace Go.Am
open Go.Proofs (encStr bytesLess_eq)
open Go.WideMaps (keyOf_string_mk)
open Go.RowKit (Below)

def bs (b : ByteArray) : List UInt8 := b.data.toList
theorem lt_iff (a b : ByteArray) : (Str.of a).lt (Str.of b) = decide (bs a < bs b) := by
  rw [Str.lt_of, bytesLess_eq]; rfl
theorem insS_spec (x : ByteArray) : ∀ (l : List ByteArray), (l.map bs).Pairwise (fun a b => leB a b = true) → ∃ m : List ByteArray, insS (Str.of x) (l.map Str.of) = m.map Str.of ∧ m.Perm (x :: l) ∧ (m.map bs).Pairwise (fun a b => leB a b = true)
  | [], _ => ⟨[x], rfl, .refl _, by simp⟩
  | y :: l, h => by
    simp only [List.map_cons, List.pairwise_cons] at h
    unfold insS
    simp only [List.map_cons, lt_iff]
    by_cases hlt : bs y < bs x
    · simp only [hlt, decide_true]
      obtain ⟨m, h1, h2, h3⟩ := insS_spec x l h.2
      refine ⟨y :: m, by simp [h1], (h2.cons y).trans (.swap x y l), ?_⟩
      simp only [List.map_cons, List.pairwise_cons]
      refine ⟨fun b hb => ?_, h3⟩
      have hb' : b ∈ (x :: l).map bs := (h2.map bs).mem_iff.mp hb
      simp only [List.map_cons, List.mem_cons] at hb'
      rcases hb' with rfl | hb'
      · simp only [leB, decide_eq_true_eq]; exact List.le_of_lt hlt
      · exact h.1 b hb'
    · simp only [hlt, decide_false]
      refine ⟨x :: y :: l, by simp, .refl _, ?_⟩
      have hxy : leB (bs x) (bs y) = true := by simp only [leB, decide_eq_true_eq]; exact List.not_lt.mp hlt
      simp only [List.map_cons, List.pairwise_cons]
      refine ⟨fun b hb => ?_, h.1, h.2⟩
      simp only [List.mem_cons] at hb
      rcases hb with rfl | hb
      · exact hxy
      · have := h.1 b hb
        simp only [leB, decide_eq_true_eq] at this hxy ⊢
        exact List.le_trans hxy this
theorem sortS_spec : ∀ (l : List ByteArray), ∃ m : List ByteArray, sortS (l.map Str.of) = m.map Str.of ∧ m.Perm l ∧ (m.map bs).Pairwise (fun a b => leB a b = true)
  | [] => ⟨[], rfl, .refl _, by simp⟩
  | x :: l => by
    obtain ⟨m, h1, h2, h3⟩ := sortS_spec l
    obtain ⟨n, g1, g2, g3⟩ := insS_spec x m h3
    exact ⟨n, by simp only [List.map_cons, sortS, h1, g1], g2.trans (h2.cons x), g3⟩
theorem sorted_unique {l m : List (List UInt8)} (hp : m.Perm l) (hm : m.Pairwise (fun a b => leB a b = true)) : l.mergeSort leB = m := by
  have tr : ∀ a b c : List UInt8, leB a b = true → leB b c = true → leB a c = true := fun a b c h1 h2 => by simp only [leB, decide_eq_true_eq] at *; exact List.le_trans h1 h2
  have to : ∀ a b : List UInt8, (leB a b || leB b a) = true := fun a b => by simp only [leB, Bool.or_eq_true, decide_eq_true_eq]; exact List.le_total a b
  refine List.Perm.eq_of_pairwise (le := fun a b => leB a b = true) (fun a b _ _ h1 h2 => ?_) (List.pairwise_mergeSort tr to l) hm ((List.mergeSort_perm l leB).trans hp.symm)
  simp only [leB, decide_eq_true_eq] at h1 h2
  exact List.le_antisymm h1 h2

/-- A block that a call has laid, somewhere beyond what lay there, becomes known. -/
theorem HR.adopt {P : Program} {ι : Inj} {s : St} {w w' : World} (h : HR P ι s w) {ab : AB} {g : Nat} (z : Nat) (hB : Below w.heap.size w w') (hg : w.heap.size ≤ g) (hb : ∀ κ, ι.le κ → BR P κ w' g (0, z) ab) :
    HR P (ι.at s.nx (g, 0, z)) (s.new ab).2 w' ∧ Ext ι s w (ι.at s.nx (g, 0, z)) (s.new ab).2 w' := by
  have hle : ι.le (ι.at s.nx (g, 0, z)) := Inj.at_le h.fresh
  have old : ∀ b x, b ≠ s.nx → (ι.at s.nx (g, 0, z)) b = some x → ι b = some x := fun b x hb hx => by
    unfold Inj.at at hx; rwa [if_neg hb] at hx
  have live : ∀ b ab', (s.new ab).2.h.get b = some ab' → (b = s.nx ∧ ab = ab') ∨ (b ≠ s.nx ∧ s.h.get b = some ab') := fun b ab' hg => Tr.get_put hg
  suffices hE : Ext ι s w (ι.at s.nx (g, 0, z)) (s.new ab).2 w' by
    refine ⟨⟨h.gl.ext hE rfl, fun b cb d hx hs => ?_, fun b x hx => ?_, fun b cb d ab' hx hg => ?_, fun b b' cb d d' ab1 ab2 h1 h2 g1 g2 => ?_⟩, hE⟩
    · by_cases e : b = s.nx
      · subst e; rw [Inj.at_same] at hx; cases hx; rfl
      · exact h.base b cb d (old b _ e hx) hs
    · show b < s.nx + 1
      by_cases e : b = s.nx
      · omega
      · have := h.dom b x (old b x e hx); omega
    · rcases live b ab' hg with ⟨e, e'⟩ | ⟨e, hg⟩
      · subst e; subst e'
        rw [Inj.at_same] at hx; cases hx
        exact hb _ hle
      · have hx := old b _ e hx
        have hbr := h.br b cb d ab' hx hg
        exact hbr.frame (hB.block _ hbr.lt) hle
    · rcases live b ab1 g1 with ⟨e, _⟩ | ⟨e, g1⟩ <;> rcases live b' ab2 g2 with ⟨e', _⟩ | ⟨e', g2⟩
      · rw [e, e']
      · subst e; rw [Inj.at_same] at h1; cases h1
        have := (h.br b' _ _ ab2 (old _ _ e' h2) g2).lt; omega
      · subst e'; rw [Inj.at_same] at h2; cases h2
        have := (h.br b _ _ ab1 (old _ _ e h1) g1).lt; omega
      · exact h.inj b b' cb d d' ab1 ab2 (old _ _ e h1) (old _ _ e' h2) g1 g2
  refine ⟨hle, hB.size, fun cb hcb ho => ⟨hB.block cb hcb, ?_⟩, fun b hb => by unfold Inj.at; rw [if_neg (by omega)], Nat.le_succ _, ⟨hB.os, hB.output⟩⟩
  rintro ⟨b, d, ab', hx, hg'⟩
  rcases live b ab' hg' with ⟨e, _⟩ | ⟨e, hg'⟩
  · subst e; rw [Inj.at_same] at hx; cases hx; omega
  · exact ho ⟨b, d, ab', old _ _ e hx, hg'⟩
theorem HR.below {P : Program} {ι : Inj} {s : St} {w w' : World} (h : HR P ι s w) (hB : Below w.heap.size w w') : HR P ι s w' ∧ Ext ι s w ι s w' := by
  suffices hE : Ext ι s w ι s w' from
    ⟨⟨h.gl.ext hE rfl, h.base, h.dom, fun b cb d ab hx hg => (h.br b cb d ab hx hg).frame (hB.block _ (h.br b cb d ab hx hg).lt) ι.le_refl, h.inj⟩, hE⟩
  exact ⟨ι.le_refl, hB.size, fun cb hcb ho => ⟨hB.block cb hcb, ho⟩, fun _ _ => rfl, Nat.le_refl _, ⟨hB.os, hB.output⟩⟩

/-- A contract inside every list's fence that holds functions that there are. -/
theorem fenced_list_FE {P : Program} {L : List FuncId} {d : Option Nat} (hL : ∀ f ∈ L, ∃ fn, P.funcs[f]? = some fn) {m : Machine} (h : m.fenced P (Fence.list L d)) : m.fenced P (FE P none) := fun g hg => by
  obtain ⟨_, h2, h3, _⟩ := h g hg
  exact ⟨fun h => (by simp [FE] at h), h2.imp (hL _) id, fun f hf => hL f (h3 f hf), FE_room _⟩
theorem callsIn_every {P : Program} {L : List FuncId} {n m : Nat} {f : FuncId} {args : Array Value} {w : World} {R : Ending → World → Prop} (hL : ∀ f ∈ L, ∃ fn, P.funcs[f]? = some fn) (h : ∀ D, CallsIn (Fence.list L (some D)) n P f args w R) : CallsIn (FE P none) m P f args w R :=
  ⟨hL f (h 0).1, fun cs _ => by
    obtain ⟨e, w', fr, r, s, x⟩ := (h (cs.length + 1 + n)).2 cs (fun d hd => by cases hd; exact Nat.le_refl _)
    refine ⟨e, w', fr, r, ?_, x⟩
    cases e with
    | returned v => exact StepsIn.mono (fun _ h => fenced_list_FE hL h) s
    | panicked c => exact StepsIn.mono (fun _ h => fenced_list_FE hL h) s
    | outgrown => exact s⟩

theorem callsIn_room {P : Program} {n m : Nat} {f : FuncId} {args : Array Value} {w : World} {R : Ending → World → Prop} (h : CallsIn (FE P none) n P f args w R) : CallsIn (FE P none) m P f args w R := ⟨h.1, fun cs _ => h.2 cs (FE_room _)⟩

/-- The contract. -/
structure SortedOK (P : Program) (S kt : Nat) (kfs : List Nat) : Prop where
  enter : ∀ args w, (callFunc S args).run P w = .ok (.enter S args) w
  und : P.underlying kt = some .string
  keys : ∀ g, hasN g kfs = true → ∀ (Bm b nn : Nat) (D0 : DataW Unit) (R : Value → Option (DataW Unit × List MemPlace)) (w : World), Bm < w.heap.size → w.cell? ⟨Bm, 0, none⟩ = some (.map (some b)) → w.ownsMap P kt R b nn D0 → Maps.size D0 ≤ maxLen → Maps.size D0 * 16 ≤ 140737488355328 →
    CallsIn (FE P none) 0 P S #[.func (.func g) #[] #[.pointer (some ⟨Bm, 0, none⟩)]] w fun e w' => ∃ (v : Value) (ss : List (List UInt8)), e = .returned v ∧ ss.Perm (strKeys D0) ∧ w'.ownsRow w.heap.size kt 1 v ss.length ((ss.mergeSort leB).map encStr) ∧ (v = .slice none 0 0 ↔ ss = []) ∧ Below w.heap.size w w'

theorem keysOf_spec {ι : Inj} : ∀ {es : List (AV × AV)} {l : List Str} {m : List MapEntry}, keysOf es = some l → ERs ι es m → ∃ B : List ByteArray, l = B.map Str.of ∧ m.map (·.key) = B.map Value.string ∧ es.map (·.1) = (B.map Str.of).map AV.str ∧ ∀ b ∈ B, b.size ≤ 1000000000
  | [], l, m, h, hr => by
    cases hr; cases h; exact ⟨[], rfl, rfl, rfl, by simp⟩
  | (k, v) :: es, l, m, h, hr => by
    cases hr with
    | @cons _ e _ m' h1 h2 =>
      unfold keysOf at h
      split at h
      · rename_i e; cases e
      · rename_i k' v' es' e
        cases e
        split at h
        · rename_i l' hle hk
          cases h
          obtain ⟨B, g1, g2, g3, g4⟩ := keysOf_spec hk h2
          obtain ⟨b0, hb1, hb2⟩ := h1.1.str
          refine ⟨b0 :: B, by simp [g1, hb2], by simp [g2, hb1], by simp [g3, hb2], ?_⟩
          intro b hb
          simp only [List.mem_cons] at hb
          rcases hb with rfl | hb
          · have := Nat.ble_eq.mp hle
            rw [hb2] at this
            simpa [Str.of] using this
          · exact g4 b hb
        · cases h
      · cases h

theorem sorted_own {P : Program} {S kt : Nat} {kfs : List Nat} (h : SortedOK P S kt kfs) : OwnOne P S (sortedOwn kfs) := by
  intro args s r hr ι w cargs hv hH
  unfold sortedOwn at hr
  split at hr
  · rename_i _ g b
    split at hr
    · rename_i c n hg hsh hc
      obtain ⟨ca, rfl, ha⟩ := hv.get1
      simp only [VR] at ha
      obtain ⟨x, y, rfl, hx, hy⟩ := ha
      have hx : x = #[] := by
        obtain ⟨l⟩ := x
        cases l with
        | nil => rfl
        | cons _ _ => simp [VRs] at hx
      subst hx
      obtain ⟨cp, rfl, hp⟩ := VRs.get1 hy
      simp only [VR] at hp
      obtain ⟨cb, d, hb, rfl⟩ := hp
      have hd : d.1 = 0 := hH.base b cb d hb hsh
      rw [hd]
      unfold sortedBox at hr
      split at hr
      · rename_i r0 hr0
        unfold sortedAt at hr
        split at hr
        · rename_i es hes
          unfold sortedMap at hr
          split at hr
          · rename_i l hsz hl
            cases hr
            have hsz := Nat.ble_eq.mp hsz
            simp only [kL_eq]
            obtain ⟨cs, e, fz, k1, k0, k2⟩ := hH.cells hb hc
            obtain ⟨_, _, cv, k3, k4⟩ := k2 _ _ hr0
            simp only [VR] at k4
            obtain ⟨cr, dr, hbr, rfl⟩ := k4
            rw [hd] at k3
            have hcell := cell_of k1 k3
            obtain ⟨_, hKD, lm, clock, hm, ⟨l', hperm, hER⟩, hborn, hlt⟩ := hH.br r0 cr dr _ hbr hes
            obtain ⟨B, b1, b2, b3, b4⟩ := keysOf_spec hl hER
            let R : Value → Option (DataW Unit × List MemPlace) := fun _ => some (.nil, [])
            have hlen : es.length = lm.toList.length := by rw [hER.length, hperm.length_eq]
            have hkeys : (lm.toList.map (·.key)).Perm (B.map Value.string) := by
              rw [← b2]; exact (hperm.map _).symm
            have hBnd : B.Nodup := by
              have h1 : (es.map (·.1)).Pairwise fun a b => keyEq a b = some false := List.pairwise_map.mpr hKD
              rw [b3, List.pairwise_map, List.pairwise_map] at h1
              refine h1.imp fun {a b} hab e => ?_
              subst e
              simp [keyEq, Str.beq] at hab
            have hFit : Go.WideElems.Fit P kt R lm clock := by
              refine ⟨?_, ⟨hlt, hborn, ?_⟩, fun x hx => ?_⟩
              · have : lm.size = lm.toList.length := by simp
                unfold maxLen; omega
              · refine (hkeys.nodup_iff).mpr ?_
                refine List.Pairwise.map _ (fun a b hab e => hab ?_) hBnd
                simpa using e
              · have hxk : x.key ∈ B.map Value.string := hkeys.mem_iff.mp (List.mem_map.mpr ⟨x, hx, rfl⟩)
                obtain ⟨b', hb', hb''⟩ := List.mem_map.mp hxk
                refine ⟨_, Go.WideElems.rd_mk (key := x.key) (val := x.val) (born := x.born) (kl := .string b'.data.toList) (yv := (.nil, [])) ?_ rfl⟩
                rw [← hb'']
                exact keyOf_string_mk h.und (by have := b4 b' hb'; unfold maxLen; omega)
            let D0 : DataW Unit := .map ((lm.toList.map (Go.WideElems.rg P kt R)).foldr DataW.insert [])
            have hown : w.ownsMap P kt R cr lm.size D0 := ⟨lm, clock, hm, hFit, Nat.le_refl _, rfl⟩
            have hsp := Go.WideShapes.sorted_perm (lm.toList.map (Go.WideElems.rg P kt R))
            have hD0 : Maps.size D0 = lm.toList.length := by
              show ((lm.toList.map (Go.WideElems.rg P kt R)).foldr DataW.insert []).length = _
              rw [hsp.length_eq]; simp
            have hstr : (strKeys D0).Perm (B.map bs) := by
              have e1 : (strKeys D0).Perm ((lm.toList.map (Go.WideElems.rg P kt R)).map fun p => strOf p.1) := hsp.map _
              refine e1.trans ?_
              have e2 : (lm.toList.map (Go.WideElems.rg P kt R)).map (fun p => strOf p.1) = (lm.toList.map (·.key)).map (fun v => match v with | .string s => s.data.toList | _ => []) := by
                rw [List.map_map, List.map_map]
                refine List.map_congr_left fun x hx => ?_
                have hxk : x.key ∈ B.map Value.string := hkeys.mem_iff.mp (List.mem_map.mpr ⟨x, hx, rfl⟩)
                obtain ⟨b', hb', hb''⟩ := List.mem_map.mp hxk
                have hrd := Go.WideElems.rd_mk (P := P) (k := kt) (R := R) (key := x.key) (val := x.val) (born := x.born) (kl := .string b'.data.toList) (yv := (.nil, [])) (by rw [← hb'']; exact keyOf_string_mk h.und (by have := b4 b' hb'; unfold maxLen; omega)) rfl
                have hrg := Go.WideElems.rg_of hrd
                have : x = ⟨x.key, x.val, x.born⟩ := rfl
                simp only [Function.comp]
                rw [this, hrg]
                simp only [← hb'', strOf]
              rw [e2]
              refine (hkeys.map _).trans ?_
              rw [List.map_map]
              exact .refl _
            refine .inl ⟨h.enter _ w, CallsIn.mono (h.keys g hg cb cr lm.size D0 R w (hH.br b cb d _ hb (St.cells_spec hc)).lt hcell hown (by rw [hD0]; unfold maxLen; omega) (by rw [hD0]; omega)) ?_⟩
            rintro e' w' ⟨v, ss, rfl, hss, hrow, hnil, hB⟩
            obtain ⟨m, m1, m2, m3⟩ := sortS_spec B
            have hms : ss.mergeSort leB = m.map bs := sorted_unique ((m2.map bs).trans (hss.trans hstr).symm) m3
            have hlen2 : ss.length = m.length := by
              have := (hss.trans hstr).length_eq
              rw [this, List.length_map, m2.length_eq]
            rw [b1, m1]
            have henc : (ss.mergeSort leB).map encStr = m.map Value.string := by
              rw [hms, List.map_map]
              exact List.map_congr_left fun b' _ => by simp [bs, encStr]
            rw [henc, hlen2] at hrow
            rcases hrow.2 with ⟨rfl, hz⟩ | ⟨gb, cap, cur, rfl, hbase, hgb, r1, r2, r3, r4⟩
            · have : m = [] := List.eq_nil_of_length_eq_zero hz
              subst this
              obtain ⟨q1, q2⟩ := hH.below hB
              exact ⟨_, _, rfl, ι, by simp [VR], q1, q2⟩
            · cases m with
              | nil =>
                have : ss = [] := List.eq_nil_of_length_eq_zero (by simpa using hlen2)
                have := hnil.mpr this
                cases this
              | cons m0 ml =>
                have e1 : ∀ (c : Tr AV) (n : Nat), s.newC c n = s.new (.cells c n) := fun c n => by simp [St.newC]
                simp only [List.map_cons, sortedRes]
                rw [e1]
                obtain ⟨q1, q2⟩ := hH.adopt (z := cap) (g := gb) (ab := .cells (Tr.of (AV.str (Str.of m0) :: (ml.map Str.of).map AV.str)) (AV.str (Str.of m0) :: (ml.map Str.of).map AV.str).length) hB hbase (fun κ hκ => by
                  refine ⟨cur, kt, (0, 0), hgb, fun j hj => ⟨by simp only at hj; omega, by simp⟩, fun i v hiv => ?_⟩
                  have hiv := Tr.get_of hiv
                  have hi : i < (m0 :: ml).length := by
                    have := (List.getElem?_eq_some_iff.1 hiv).1
                    simpa using this
                  refine ⟨by simpa using hi, by simp only; omega, .string ((m0 :: ml)[i]), ?_, ?_⟩
                  · simp only [Nat.zero_add]
                    have h1 : (cur.toList.take ((m0 :: ml).length * 1))[i]? = some (.string ((m0 :: ml)[i])) := by
                      rw [r4, List.getElem?_map, List.getElem?_eq_getElem hi]; rfl
                    rw [List.getElem?_take_of_lt (by omega)] at h1
                    simpa using h1
                  · have h2 : (AV.str (Str.of m0) :: (ml.map Str.of).map AV.str) = (m0 :: ml).map fun b => AV.str (Str.of b) := by simp
                    rw [h2, List.getElem?_map, List.getElem?_eq_getElem hi] at hiv
                    simp only [Option.map_some, Option.some.injEq] at hiv
                    rw [← hiv]
                    simp [VR])
                refine ⟨_, _, rfl, _, ?_, q1, q2⟩
                simp only [VR, St.new]
                refine ⟨gb, (0, cap), 0, cap, Inj.at_same _ _ _, by simp, fun _ => rfl, Nat.le_refl _, by simpa using r1, (fun e => by cases e), by simp⟩
          · cases hr
        · cases hr
      · cases hr
    · cases hr
  · cases hr
end Go.Am
