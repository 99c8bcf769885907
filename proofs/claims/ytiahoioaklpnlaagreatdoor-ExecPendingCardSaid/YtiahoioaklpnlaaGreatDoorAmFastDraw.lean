/-
  REGIONS THAT DRAW THEIR ORDER: what is taken when hangs on the code alone: it is reckoned once.
-/
import Derived.Test.YtiahoioaklpnlaaGreatDoorAmFastEv
namespace Go.Am
noncomputable section

inductive DS where
  | take (i : Nat) (o : Oper)
  | act (i : Nat) (o : Oper)
  | stop
def takesOf : List (Nat × Oper) → Nat → List DS × Nat
  | [], done => ([], done)
  | io :: rest, done => match mayTake done io.1 io.2 with
    | false => takesOf rest done
    | true => (.take io.1 io.2 :: (takesOf rest (Nat.lor done (Nat.pow 2 io.1))).1, (takesOf rest (Nat.lor done (Nat.pow 2 io.1))).2)
def schedOf (l : List (Nat × Oper)) : Nat → Nat → List DS
  | 0, _ => [.stop]
  | f + 1, done => (takesOf l done).1 ++ match readyList l (takesOf l done).2 with
    | [] => []
    | [io] => match acts io.2 with
      | true => .act io.1 io.2 :: schedOf l f (Nat.lor (takesOf l done).2 (Nat.pow 2 io.1))
      | false => [.stop]
    | _ => [.stop]

/-- What such a list says is to be done. -/
def takeS (X : Ctx) (ops : Array Oper) (i : Nat) (o : Oper) (pend : List Pend) (fr : Fr) (s : St) (k : List Pend → Fr → St → R) : R := match takeIf X i o fr s (wantedAt ops fr o) with
  | some (p, fr, s) => k (p :: pend) fr s
  | none => none
def actS (X : Ctx) (call : Caller) (ops : Array Oper) (o : Oper) (pend : List Pend) (fr : Fr) (s : St) (k : List Pend → Fr → St → R) : R := match oneOp X call ops o fr s with
  | some (.go fr s) => match (pend.filter fun p => !waitsFor o p.i).all (stands X ops fr s) with
    | true => k (pend.filter fun p => !waitsFor o p.i) fr s
    | false => none
  | some (.pan v fr s) => some (.pan v, ⟨.e, fr.d⟩, s)
  | none => none
def runS (X : Ctx) (call : Caller) (ops : Array Oper) : List DS → List Pend → Fr → St → R
  | [], _, fr, s => some (.norm, fr, s)
  | .take i o :: l, pend, fr, s => takeS X ops i o pend fr s (runS X call ops l)
  | .act _ o :: l, pend, fr, s => actS X call ops o pend fr s (runS X call ops l)
  | .stop :: _, _, _, _ => none

theorem takeAll_eq {X : Ctx} {call : Caller} {ops : Array Oper} (k : Nat → List Pend → Fr → St → R) (m : List DS) : ∀ (l : List (Nat × Oper)) (done : Nat) (pend : List Pend) (fr : Fr) (s : St),
    (∀ pend fr s, runS X call ops m pend fr s = k (takesOf l done).2 pend fr s) → takeAll X ops k l done pend fr s = runS X call ops ((takesOf l done).1 ++ m) pend fr s
  | [], done, pend, fr, s, h => (h pend fr s).symm
  | io :: rest, done, pend, fr, s, h => by
    unfold takeAll
    unfold takesOf at h ⊢
    cases hm : mayTake done io.1 io.2 with
    | false =>
      rw [hm] at h
      exact takeAll_eq k m rest done pend fr s h
    | true =>
      rw [hm] at h
      show takeGo (takeAll X ops k rest) done io.1 pend (takeIf X io.1 io.2 fr s (wantedAt ops fr io.2)) = takeS X ops io.1 io.2 pend fr s (runS X call ops ((takesOf rest (Nat.lor done (Nat.pow 2 io.1))).1 ++ m))
      unfold takeGo takeS
      cases takeIf X io.1 io.2 fr s (wantedAt ops fr io.2) with
      | none => rfl
      | some q =>
        obtain ⟨p, fr, s⟩ := q
        simp only [kN_eq]
        exact takeAll_eq k m rest _ _ fr s h
theorem drawGo_eq {X : Ctx} {call : Caller} {ops : Array Oper} {l : List (Nat × Oper)} : ∀ (f done : Nat) (pend : List Pend) (fr : Fr) (s : St), drawGo X call ops l f done pend fr s = runS X call ops (schedOf l f done) pend fr s
  | 0, _, _, _, _ => rfl
  | f + 1, done, pend, fr, s => by
    show takeAll X ops (fun done pend fr s => actIf X call ops (drawGo X call ops l f) done pend fr s (readyList l done)) l done pend fr s = _
    unfold schedOf
    refine takeAll_eq _ _ l done pend fr s fun pend fr s => ?_
    show _ = actIf X call ops (drawGo X call ops l f) (takesOf l done).2 pend fr s (readyList l (takesOf l done).2)
    generalize readyList l (takesOf l done).2 = rl
    match rl with
    | [] => rfl
    | [io] =>
      simp only [actIf]
      cases acts io.2 with
      | false => rfl
      | true =>
        show actS X call ops io.2 pend fr s (runS X call ops (schedOf l f _)) = actGo X ops (drawGo X call ops l f) (takesOf l done).2 io.1 io.2 pend (oneOp X call ops io.2 fr s)
        unfold actS actGo
        cases oneOp X call ops io.2 fr s with
        | none => rfl
        | some pr =>
          cases pr with
          | pan v fr s => rfl
          | go fr s =>
            simp only [kN_eq]
            cases (pend.filter fun p => !waitsFor io.2 p.i).all (stands X ops fr s) with
            | false => rfl
            | true => exact (drawGo_eq f _ _ fr s).symm
    | _ :: _ :: _ => rfl

/- The same, fast. -/
def smK (x y : AV) (T F : R) : R := intK x (fun j n => intK y (fun i m => Bool.rec (motive := fun _ => R) F (Int.rec (motive := fun _ => R) (fun a => Int.rec (motive := fun _ => R) (fun b => Bool.rec (motive := fun _ => R) F T (Nat.beq a b)) (fun _ => F) m) (fun a => Int.rec (motive := fun _ => R) (fun _ => F) (fun b => Bool.rec (motive := fun _ => R) F T (Nat.beq a b)) m) n) (Nat.beq (kixF j) (kixF i))) F)
  (ptrK x (fun a b => ptrK y (fun c e => Bool.rec (motive := fun _ => R) F (Bool.rec (motive := fun _ => R) F T (Nat.beq b e)) (Nat.beq a c)) F) (Bool.rec (motive := fun _ => R) F T (x.same y)))
theorem smK_eq (x y : AV) (T F : R) : smK x y T F = Bool.rec (motive := fun _ => R) F T (x.same y) := by
  unfold smK
  rw [intK_eq]
  split
  · rename_i j n
    rw [intK_eq]
    split
    · rename_i i m
      have hs : (AV.int j n).same (.int i m) = (decide (j = i) && decide (n = m)) := by simp [AV.same]
      rw [hs]
      cases hk : Nat.beq (kixF j) (kixF i) with
      | false =>
        have : j ≠ i := fun e => by rw [e, kix_self] at hk; cases hk
        simp [this]
      | true =>
        have := kix_inj hk
        subst this
        cases n with
        | ofNat a =>
          cases m with
          | ofNat b =>
            show Bool.rec (motive := fun _ => R) F T (Nat.beq a b) = _
            have : Nat.beq a b = decide (Int.ofNat a = Int.ofNat b) := by rw [Bool.eq_iff_iff]; simp; omega
            rw [this]; simp
          | negSucc b => simp
        | negSucc a =>
          cases m with
          | ofNat b => simp
          | negSucc b =>
            show Bool.rec (motive := fun _ => R) F T (Nat.beq a b) = _
            have : Nat.beq a b = decide (Int.negSucc a = Int.negSucc b) := by rw [Bool.eq_iff_iff]; simp
            rw [this]; simp
    · rename_i h
      have hs : (AV.int j n).same y = false := by
        cases y <;> first | rfl | (exact absurd rfl (h _ _))
      rw [hs]
  · rw [ptrK_eq]
    split
    · rename_i a b _
      rw [ptrK_eq]
      split
      · rename_i c e
        have hs : (AV.ptr (some (a, b))).same (.ptr (some (c, e))) = decide (some (a, b) = some (c, e)) := by simp [AV.same]
        rw [hs]
        cases h1 : Nat.beq a c with
        | false =>
          have : a ≠ c := fun e => by rw [e] at h1; simp at h1
          simp [this]
        | true =>
          have := Nat.beq_eq.mp h1
          subst this
          cases h2 : Nat.beq b e with
          | false =>
            have : b ≠ e := fun e' => by rw [e'] at h2; simp at h2
            simp [this]
          | true =>
            have := Nat.beq_eq.mp h2
            subst this
            simp
      · rename_i h
        have hs : (AV.ptr (some (a, b))).same y = false := by
          cases y <;> try rfl
          rename_i p
          cases p with
          | none => simp [AV.same]
          | some p => exact absurd rfl (h _ _)
        rw [hs]
    · rfl

def putT (dst : Option Nat) (v : AV) (fr : Fr) (k : Fr → R) : R := Option.rec (motive := fun _ => R) (k ⟨fr.t, fr.d⟩) (fun d => fr.t.putK d v fun t => k ⟨t, fr.d⟩) dst
theorem putT_eq (dst : Option Nat) (v : AV) (fr : Fr) (k : Fr → R) : putT dst v fr k = k ⟨(fr.put dst v).t, fr.d⟩ := by
  cases dst <;> simp only [putT, Tr.putK_eq, Fr.put]
def slowTake (X : Ctx) (i : Nat) (o : Oper) (pend : List Pend) (fr : Fr) (s : St) (k : List Pend → Fr → St → R) : R := match take1 i o fr s (opAt X o fr s) with
  | some (p, fr, s) => k (p :: pend) fr s
  | none => none
def goTake (X : Ctx) (i : Nat) (o : Oper) (pend : List Pend) (fr : Fr) (s : St) (k : List Pend → Fr → St → R) : R :=
  vF o.op X fr s (fun v => putT o.dst v fr fun fr => k (⟨i, o, v, none⟩ :: pend) fr s) (slowTake X i o pend fr s k)
theorem goTake_ok {X : Ctx} {i : Nat} {o : Oper} {pend : List Pend} {fr : Fr} {s : St} {k : List Pend → Fr → St → R} : goTake X i o pend fr s k = slowTake X i o pend fr s k := by
  unfold goTake
  rcases vF_ok (X := X) (fr := fr) (s := s) (k := fun v => putT o.dst v fr fun fr => k (⟨i, o, v, none⟩ :: pend) fr s) (d := slowTake X i o pend fr s k) (rfl : o.op = o.op) with h | ⟨u, h1, h2⟩
  · exact h
  · rw [h2]
    show putT o.dst u fr (fun fr => k (⟨i, o, u, none⟩ :: pend) fr s) = _
    rw [putT_eq]
    unfold slowTake
    rcases h1 with h1 | h1 <;> (rw [h1]; simp only [take1, kV_eq, kT_eq])
def takeF (X : Ctx) (ops : Array Oper) (i : Nat) (o : Oper) (pend : List Pend) (fr : Fr) (s : St) (k : List Pend → Fr → St → R) : R := Option.rec (motive := fun _ => R) (goTake X i o pend fr s k) (fun g => Prod.rec (motive := fun _ => R) (fun j want => Option.rec (motive := fun _ => R) none (fun d => Option.rec (motive := fun _ => R) none
  (fun v => btK v (fun b => bqF (goTake X i o pend fr s k) (putT o.dst (.tup []) fr fun fr => k (⟨i, o, .tup [], none⟩ :: pend) fr s) b want) (putT o.dst (.tup []) fr fun fr => k (⟨i, o, .tup [], none⟩ :: pend) fr s) none) (fr.t.get d)) (gdF ops j)) g) o.guard
theorem takeF_ok {X : Ctx} {ops : Array Oper} {i : Nat} {o : Oper} {pend : List Pend} {fr : Fr} {s : St} {k : List Pend → Fr → St → R} : takeF X ops i o pend fr s k = takeS X ops i o pend fr s k := by
  have hT : goTake X i o pend fr s k = match takeIf X i o fr s (some true) with | some (p, fr, s) => k (p :: pend) fr s | none => none := goTake_ok
  have hF : (putT o.dst (.tup []) fr fun fr => k (⟨i, o, .tup [], none⟩ :: pend) fr s) = match takeIf X i o fr s (some false) with | some (p, fr, s) => k (p :: pend) fr s | none => none := by
    rw [putT_eq]; simp only [takeIf, kT_eq]
  unfold takeF takeS wantedAt
  cases hg : o.guard with
  | none => exact hT
  | some g =>
    obtain ⟨j, want⟩ := g
    simp only
    unfold gdF guardAt
    cases hj : ops.toList[j]? with
    | none => rfl
    | some g =>
      simp only
      cases hd : g.dst with
      | none => rfl
      | some d =>
        simp only
        unfold saysAt
        cases hv : fr.t.get d with
        | none => rfl
        | some v =>
          simp only [btK_eq]
          cases v with
          | bool b =>
            simp only
            unfold bqF
            cases b <;> cases want <;> first | exact hT | exact hF
          | tup l => exact hF
          | _ => rfl

/-- Does one stand as it stood? -/
def standF (X : Ctx) (ops : Array Oper) (fr : Fr) (s : St) (p : Pend) (T : R) : R := Option.rec (motive := fun _ => R)
  (Option.rec (motive := fun _ => R) (vF p.o.op X fr s (fun u => smK u p.v T none) (Bool.rec (motive := fun _ => R) none T (stands X ops fr s p))) (fun _ => Bool.rec (motive := fun _ => R) none T (stands X ops fr s p)) p.o.guard)
  (fun _ => Bool.rec (motive := fun _ => R) none T (stands X ops fr s p)) p.laid
theorem standF_ok {X : Ctx} {ops : Array Oper} {fr : Fr} {s : St} {p : Pend} {T : R} : standF X ops fr s p T = Bool.rec (motive := fun _ => R) none T (stands X ops fr s p) := by
  unfold standF
  cases hl : p.laid with
  | some _ => rfl
  | none =>
    simp only
    cases hg : p.o.guard with
    | some _ => rfl
    | none =>
      simp only
      rcases vF_ok (X := X) (fr := fr) (s := s) (k := fun u => smK u p.v T none) (d := Bool.rec (motive := fun _ => R) none T (stands X ops fr s p)) (rfl : p.o.op = p.o.op) with h | ⟨u, h1, h2⟩
      · exact h
      · rw [h2]
        show smK u p.v T none = _
        rw [smK_eq]
        have : stands X ops fr s p = u.same p.v := by
          unfold stands
          rw [hl]
          simp only [wantedAt, hg]
          rcases h1 with h1 | h1 <;> (rw [h1]; rfl)
        rw [this]
def keepF (o : Oper) : List Pend → List Pend := List.rec (motive := fun _ => List Pend) [] (fun p _ ih => Bool.rec (motive := fun _ => List Pend) (p :: ih) ih (waitsFor o p.i))
theorem keepF_eq (o : Oper) : ∀ l, keepF o l = l.filter fun p => !waitsFor o p.i
  | [] => rfl
  | p :: l => by
    show Bool.rec (motive := fun _ => List Pend) (p :: keepF o l) (keepF o l) (waitsFor o p.i) = _
    rw [List.filter_cons, keepF_eq o l]
    cases waitsFor o p.i <;> rfl
def allF (X : Ctx) (ops : Array Oper) (fr : Fr) (s : St) (T : R) : List Pend → R := List.rec (motive := fun _ => R) T (fun p _ ih => standF X ops fr s p ih)
theorem allF_eq {X : Ctx} {ops : Array Oper} {fr : Fr} {s : St} {T : R} : ∀ (l : List Pend), allF X ops fr s T l = match l.all (stands X ops fr s) with | true => T | false => none
  | [] => rfl
  | p :: l => by
    show standF X ops fr s p (allF X ops fr s T l) = _
    rw [standF_ok, allF_eq l, List.all_cons]
    cases stands X ops fr s p <;> rfl
def frcL (l : List Pend) (k : List Pend → R) : R := List.rec (motive := fun _ => R) (k []) (fun p l _ => k (p :: l)) l
theorem frcL_eq (l : List Pend) (k : List Pend → R) : frcL l k = k l := by cases l <;> rfl
def actF (X : Ctx) (call : Caller) (ops : Array Oper) (o : Oper) (pend : List Pend) (fr : Fr) (s : St) (k : List Pend → Fr → St → R) : R := stepF o X call ops fr s fun fr s => frcL (keepF o pend) fun l => allF X ops fr s (k l fr s) l
def dsK : DS → (Nat → Oper → R) → (Oper → R) → R := DS.rec (motive := fun _ => (Nat → Oper → R) → (Oper → R) → R) (fun i o a _ => a i o) (fun _ o _ b => b o) (fun _ _ => none)
def runD (X : Ctx) (call : Caller) (ops : Array Oper) : List DS → List Pend → Fr → St → R := List.rec (motive := fun _ => List Pend → Fr → St → R) (fun _ fr s => some (.norm, fr, s)) (fun e _ ih pend fr s => dsK e (fun i o => takeF X ops i o pend fr s ih) (fun o => actF X call ops o pend fr s ih))
/-- A panic within such a region: what the slots hold is not known. -/
def noPan : R → R := Option.rec (motive := fun _ => R) none (fun p => Prod.rec (motive := fun _ => R) (fun x q => EX.rec (motive := fun _ => R) (some p) (fun _ => some p) (some p) (fun v => some (.pan v, ⟨.e, q.1.d⟩, q.2)) x) p)
theorem runD_ok {X : Ctx} {call : Caller} {ops : Array Oper} : ∀ (l : List DS) (pend : List Pend) (fr : Fr) (s : St), noPan (runD X call ops l pend fr s) = runS X call ops l pend fr s
  | [], _, _, _ => rfl
  | .stop :: _, _, _, _ => rfl
  | .take i o :: l, pend, fr, s => by
    show noPan (takeF X ops i o pend fr s (runD X call ops l)) = takeS X ops i o pend fr s (runS X call ops l)
    rw [takeF_ok]
    unfold takeS
    cases takeIf X i o fr s (wantedAt ops fr o) with
    | none => rfl
    | some q => obtain ⟨p, fr, s⟩ := q; exact runD_ok l _ fr s
  | .act i o :: l, pend, fr, s => by
    show noPan (actF X call ops o pend fr s (runD X call ops l)) = actS X call ops o pend fr s (runS X call ops l)
    unfold actF actS
    rw [stepF_ok]
    cases oneOp X call ops o fr s with
    | none => rfl
    | some pr =>
      cases pr with
      | pan v fr s => rfl
      | go fr s =>
        simp only [goNext, frcL_eq, allF_eq, keepF_eq]
        cases (pend.filter fun p => !waitsFor o p.i).all (stands X ops fr s) with
        | false => rfl
        | true => exact runD_ok l _ fr s

def drawF (X : Ctx) (call : Caller) (ops : Array Oper) (fr : Fr) (s : St) : R := noPan (runD X call ops (schedOf (numbered ops) (ops.size + 1) 0) [] fr s)
theorem drawF_ok {X : Ctx} {call : Caller} {ops : Array Oper} {fr : Fr} {s : St} : drawF X call ops fr s = drawGo X call ops (numbered ops) (ops.size + 1) 0 [] fr s := by
  unfold drawF
  rw [runD_ok, drawGo_eq]

/- The code, once more. -/
def cRegion2 (_ : Nat) (ops : Array Oper) (draw : Bool) : CF := fun X own ih fr s => Bool.rec (motive := fun _ => R) (inOrderF ops.toList X (callOwnF X own ih) ops fr s) (drawF X (callOwnF X own ih) ops fr s) draw
def codeF2 : Code → CF := Code.rec (motive := fun _ => CF) cNorm cRegion2 cSeq cCond cBlock cLoop cRange cExit cScope (fun _ => cNorm) (fun _ => cNone) cRet (fun _ => cNone)
theorem codeF2_ok {X : Ctx} {own : OwnF} {ih : Ev} (c : Code) (fr : Fr) (s : St) : codeF2 c X own ih fr s = evStep X own ih c fr s := by
  rw [← codeF_ok]
  cases c with
  | region id ops draw =>
    cases draw with
    | false => rfl
    | true => exact drawF_ok
  | _ => rfl
def evF2 (X : Ctx) (own : OwnF) (n : Nat) : Ev := Nat.rec (motive := fun _ => Ev) (fun _ _ _ => none) (fun _ ih c fr s => codeF2 c X own ih fr s) n
theorem evF2_ok {X : Ctx} {own : OwnF} : ∀ n, evF2 X own n = ev X own n
  | 0 => rfl
  | n + 1 => by
    funext c fr s
    show codeF2 c X own (evF2 X own n) fr s = evStep X own (ev X own n) c fr s
    rw [codeF2_ok, evF2_ok n]
def runQ (X : Ctx) (own : OwnF) (n : Nat) : FuncId → List AV → St → Option CR := callWithF X (evF2 X own n)
theorem runQ_ok {X : Ctx} {own : OwnF} {n : Nat} {f : FuncId} {args : List AV} {s : St} : runQ X own n f args s = evCall X own n f args s := by
  unfold runQ evCall
  rw [callWithF_ok, evF2_ok]
end
end Go.Am
