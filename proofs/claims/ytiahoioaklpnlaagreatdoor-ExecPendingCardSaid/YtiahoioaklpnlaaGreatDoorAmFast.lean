/-
  THE MACHINE's STEPS BY RECURSORS WITH CLOSED ARMS: what they answer is what the machine answers; the kernel copies less.
-/
import Derived.Test.YtiahoioaklpnlaaGreatDoorAmExtD
import Derived.Test.YtiahoioaklpnlaaGreatDoorAmMain
namespace Go.Am
noncomputable section
abbrev R := Option (EX × Fr × St)
/- Views of a value: what it is, or else. -/

def intK : AV → (IntKind → Int → R) → R → R := AV.rec (motive_1 := fun _ => (IntKind → Int → R) → R → R) (motive_2 := fun _ => Unit)
  (fun _ d => d)
  (fun _ _ d => d)
  (fun j n k _ => k j n)
  (fun _ _ _ d => d)
  (fun _ _ d => d)
  (fun _ _ d => d)
  (fun _ _ _ _ _ d => d)
  (fun _ _ d => d)
  (fun _ _ _ _ _ _ d => d)
  (fun _ d => d)
  (fun _ _ _ _ d => d)
  (fun _ d => d)
  (fun _ _ _ d => d)
  (fun _ _ _ d => d)
  (fun _ d => d)
  (fun _ _ d => d)
  (fun _ _ _ d => d)
  (fun _ _ _ _ _ d => d)
  (fun _ _ _ d => d)
  () (fun _ _ _ _ => ())

def boolK : AV → (Bool → R) → R → R := AV.rec (motive_1 := fun _ => (Bool → R) → R → R) (motive_2 := fun _ => Unit)
  (fun _ d => d)
  (fun b k _ => k b)
  (fun _ _ _ d => d)
  (fun _ _ _ d => d)
  (fun _ _ d => d)
  (fun _ _ d => d)
  (fun _ _ _ _ _ d => d)
  (fun _ _ d => d)
  (fun _ _ _ _ _ _ d => d)
  (fun _ d => d)
  (fun _ _ _ _ d => d)
  (fun _ d => d)
  (fun _ _ _ d => d)
  (fun _ _ _ d => d)
  (fun _ d => d)
  (fun _ _ d => d)
  (fun _ _ _ d => d)
  (fun _ _ _ _ _ d => d)
  (fun _ _ _ d => d)
  () (fun _ _ _ _ => ())

def strK : AV → (Str → R) → R → R := AV.rec (motive_1 := fun _ => (Str → R) → R → R) (motive_2 := fun _ => Unit)
  (fun _ d => d)
  (fun _ _ d => d)
  (fun _ _ _ d => d)
  (fun _ _ _ d => d)
  (fun x k _ => k x)
  (fun _ _ d => d)
  (fun _ _ _ _ _ d => d)
  (fun _ _ d => d)
  (fun _ _ _ _ _ _ d => d)
  (fun _ d => d)
  (fun _ _ _ _ d => d)
  (fun _ d => d)
  (fun _ _ _ d => d)
  (fun _ _ _ d => d)
  (fun _ d => d)
  (fun _ _ d => d)
  (fun _ _ _ d => d)
  (fun _ _ _ _ _ d => d)
  (fun _ _ _ d => d)
  () (fun _ _ _ _ => ())

def ptrK : AV → (Nat → Nat → R) → R → R := AV.rec (motive_1 := fun _ => (Nat → Nat → R) → R → R) (motive_2 := fun _ => Unit)
  (fun _ d => d)
  (fun _ _ d => d)
  (fun _ _ _ d => d)
  (fun _ _ _ d => d)
  (fun _ _ d => d)
  (fun p k d => Option.rec d (fun q => Prod.rec k q) p)
  (fun _ _ _ _ _ d => d)
  (fun _ _ d => d)
  (fun _ _ _ _ _ _ d => d)
  (fun _ d => d)
  (fun _ _ _ _ d => d)
  (fun _ d => d)
  (fun _ _ _ d => d)
  (fun _ _ _ d => d)
  (fun _ d => d)
  (fun _ _ d => d)
  (fun _ _ _ d => d)
  (fun _ _ _ _ _ d => d)
  (fun _ _ _ d => d)
  () (fun _ _ _ _ => ())

def slcK : AV → (Nat → Nat → Nat → Nat → R) → R → R := AV.rec (motive_1 := fun _ => (Nat → Nat → Nat → Nat → R) → R → R) (motive_2 := fun _ => Unit)
  (fun _ d => d)
  (fun _ _ d => d)
  (fun _ _ _ d => d)
  (fun _ _ _ d => d)
  (fun _ _ d => d)
  (fun _ _ d => d)
  (fun p n _ _ k d => Option.rec d (fun q => Prod.rec (fun b q => Prod.rec (fun o e => k b o e n) q) q) p)
  (fun _ _ d => d)
  (fun _ _ _ _ _ _ d => d)
  (fun _ d => d)
  (fun _ _ _ _ d => d)
  (fun _ d => d)
  (fun _ _ _ d => d)
  (fun _ _ _ d => d)
  (fun _ d => d)
  (fun _ _ d => d)
  (fun _ _ _ d => d)
  (fun _ _ _ _ _ d => d)
  (fun _ _ _ d => d)
  () (fun _ _ _ _ => ())

def slnK : AV → (Nat → R) → R → R := AV.rec (motive_1 := fun _ => (Nat → R) → R → R) (motive_2 := fun _ => Unit)
  (fun _ d => d)
  (fun _ _ d => d)
  (fun _ _ _ d => d)
  (fun _ _ _ d => d)
  (fun _ _ d => d)
  (fun _ _ d => d)
  (fun _ n _ _ k _ => k n)
  (fun _ _ d => d)
  (fun _ _ _ _ _ _ d => d)
  (fun _ d => d)
  (fun _ _ _ _ d => d)
  (fun _ d => d)
  (fun _ _ _ d => d)
  (fun _ _ _ d => d)
  (fun _ d => d)
  (fun _ _ d => d)
  (fun _ _ _ d => d)
  (fun _ _ _ _ _ d => d)
  (fun _ _ _ d => d)
  () (fun _ _ _ _ => ())

def tupK : AV → (List AV → R) → R → R := AV.rec (motive_1 := fun _ => (List AV → R) → R → R) (motive_2 := fun _ => Unit)
  (fun _ d => d)
  (fun _ _ d => d)
  (fun _ _ _ d => d)
  (fun _ _ _ d => d)
  (fun _ _ d => d)
  (fun _ _ d => d)
  (fun _ _ _ _ _ d => d)
  (fun _ _ d => d)
  (fun _ _ _ _ _ _ d => d)
  (fun _ d => d)
  (fun _ _ _ _ d => d)
  (fun _ d => d)
  (fun _ _ _ d => d)
  (fun l _ k _ => k l)
  (fun _ d => d)
  (fun _ _ d => d)
  (fun _ _ _ d => d)
  (fun _ _ _ _ _ d => d)
  (fun _ _ _ d => d)
  () (fun _ _ _ _ => ())

def funK : AV → (Fn → List AV → List AV → R) → R → R := AV.rec (motive_1 := fun _ => (Fn → List AV → List AV → R) → R → R) (motive_2 := fun _ => Unit)
  (fun _ d => d)
  (fun _ _ d => d)
  (fun _ _ _ d => d)
  (fun _ _ _ d => d)
  (fun _ _ d => d)
  (fun _ _ d => d)
  (fun _ _ _ _ _ d => d)
  (fun _ _ d => d)
  (fun f a b _ _ k _ => k f a b)
  (fun _ d => d)
  (fun _ _ _ _ d => d)
  (fun _ d => d)
  (fun _ _ _ d => d)
  (fun _ _ _ d => d)
  (fun _ d => d)
  (fun _ _ d => d)
  (fun _ _ _ d => d)
  (fun _ _ _ _ _ d => d)
  (fun _ _ _ d => d)
  () (fun _ _ _ _ => ())

def oneK : AV → R → R → R := AV.rec (motive_1 := fun _ => R → R → R) (motive_2 := fun _ => Unit)
  (fun _ d => d)
  (fun _ k _ => k)
  (fun _ _ k _ => k)
  (fun _ _ k _ => k)
  (fun _ k _ => k)
  (fun _ k _ => k)
  (fun _ _ _ _ k _ => k)
  (fun _ k _ => k)
  (fun _ _ _ _ _ k _ => k)
  (fun k _ => k)
  (fun _ _ _ k _ => k)
  (fun k _ => k)
  (fun _ _ _ d => d)
  (fun _ _ _ d => d)
  (fun k _ => k)
  (fun _ k _ => k)
  (fun _ _ k _ => k)
  (fun _ _ _ _ k _ => k)
  (fun _ _ k _ => k)
  () (fun _ _ _ _ => ())

def btK : AV → (Bool → R) → R → R → R := AV.rec (motive_1 := fun _ => (Bool → R) → R → R → R) (motive_2 := fun _ => Unit)
  (fun _ _ d => d)
  (fun b k _ _ => k b)
  (fun _ _ _ _ d => d)
  (fun _ _ _ _ d => d)
  (fun _ _ _ d => d)
  (fun _ _ _ d => d)
  (fun _ _ _ _ _ _ d => d)
  (fun _ _ _ d => d)
  (fun _ _ _ _ _ _ _ d => d)
  (fun _ _ d => d)
  (fun _ _ _ _ _ d => d)
  (fun _ _ d => d)
  (fun _ _ _ _ d => d)
  (fun _ _ _ z _ => z)
  (fun _ _ d => d)
  (fun _ _ _ d => d)
  (fun _ _ _ _ d => d)
  (fun _ _ _ _ _ _ d => d)
  (fun _ _ _ _ d => d)
  () (fun _ _ _ _ => ())

theorem intK_eq (v : AV) (k) (d : R) : intK v k d = match v with | .int j n => k j n | _ => d := by cases v <;> rfl
theorem boolK_eq (v : AV) (k) (d : R) : boolK v k d = match v with | .bool b => k b | _ => d := by cases v <;> rfl
theorem strK_eq (v : AV) (k) (d : R) : strK v k d = match v with | .str x => k x | _ => d := by cases v <;> rfl
theorem tupK_eq (v : AV) (k) (d : R) : tupK v k d = match v with | .tup l => k l | _ => d := by cases v <;> rfl
theorem ptrK_eq (v : AV) (k) (d : R) : ptrK v k d = match v with | .ptr (some (b, o)) => k b o | _ => d := by
  cases v <;> try rfl
  rename_i a; cases a <;> rfl
theorem slcK_eq (v : AV) (k) (d : R) : slcK v k d = match v with | .slc (some (b, o, e)) n _ _ => k b o e n | _ => d := by
  cases v <;> try rfl
  rename_i a _ _ _; cases a <;> rfl
theorem slnK_eq (v : AV) (k) (d : R) : slnK v k d = match v with | .slc _ n _ _ => k n | _ => d := by cases v <;> rfl
theorem funK_eq (v : AV) (k) (d : R) : funK v k d = match v with | .func f a b => k f a b | _ => d := by cases v <;> rfl
theorem oneK_eq (v : AV) (k d : R) : oneK v k d = match v with | .top => d | .agg _ => d | .tup _ => d | _ => k := by cases v <;> rfl
theorem btK_eq (v : AV) (k) (z d : R) : btK v k z d = match v with | .bool b => k b | .tup _ => z | _ => d := by cases v <;> rfl
/- The operands. -/
def opdF : Operand → Fr → (AV → R) → R := Operand.rec (motive := fun _ => Fr → (AV → R) → R)
  (fun t fr k => Option.rec (k .top) k (fr.t.get t))
  (fun v _ k => k (ofV v))
  (fun g _ k => k (.gp g 0))
  (fun f _ k => k (.func (.func f) [] []))
theorem opdF_eq (x : Operand) (fr : Fr) (k : AV → R) : opdF x fr k = k (fr.opd x) := by
  cases x with
  | tmp t =>
    show Option.rec (k .top) k (fr.t.get t) = k (match fr.t.get t with | some v => v | none => .top)
    cases fr.t.get t <;> rfl
  | _ => rfl
def putF : Option Nat → AV → Fr → St → (Fr → St → R) → R := Option.rec (motive := fun _ => AV → Fr → St → (Fr → St → R) → R)
  (fun _ fr s k => k fr s)
  (fun d v fr s k => fr.t.putK d v fun x => k ⟨x, fr.d⟩ s)
theorem putF_eq (dst : Option Nat) (v : AV) (fr : Fr) (s : St) (k : Fr → St → R) : putF dst v fr s k = goNext k (goOld fr dst v s) := by
  cases dst with
  | none => rfl
  | some d =>
    show fr.t.putK d v (fun x => k ⟨x, fr.d⟩ s) = goNext k (fr.t.putK d v fun x => some (.go ⟨x, fr.d⟩ s))
    rw [Tr.putK_eq, Tr.putK_eq]
    rfl

/-- What the slow road does. -/
def slowF (X : Ctx) (call : Caller) (o : Oper) (fr : Fr) (s : St) (k : Fr → St → R) : R := goNext k (goOp call fr o.dst s (opAt X o fr s))
abbrev H := Ctx → Caller → Oper → Fr → St → (Fr → St → R) → R
def HOK (f : Op → H) : Prop := ∀ op X call o fr s k, o.op = op → f op X call o fr s k = slowF X call o fr s k

section lemmas
variable {X : Ctx} {call : Caller} {o : Oper} {fr : Fr} {s : St} {k : Fr → St → R}
theorem slow_old {v : AV} (h : opAt X o fr s = some (.old v)) : slowF X call o fr s k = putF o.dst v fr s k := by
  rw [putF_eq]; unfold slowF; rw [h]; rfl
theorem slow_pure {v : AV} (h : opAt X o fr s = some (.pure v)) : slowF X call o fr s k = putF o.dst v fr s k := by
  rw [putF_eq]; unfold slowF; rw [h]; simp only [goOp, kV_eq]
theorem slow_val {v : AV} {s' : St} (h : opAt X o fr s = some (.val v s')) : slowF X call o fr s k = putF o.dst v fr s' k := by
  rw [putF_eq]; unfold slowF; rw [h]; simp only [goOp, goOn, kS_eq, kV_eq]
end lemmas

/- Numbers. -/
def bndF : IntKind → Nat := IntKind.rec (motive := fun _ => Nat) 127 32767 2147483647 9223372036854775807 255 65535 4294967295 18446744073709551615
def kixF : IntKind → Nat := IntKind.rec (motive := fun _ => Nat) 0 1 2 3 4 5 6 7
theorem kix_inj {j k : IntKind} (h : Nat.beq (kixF j) (kixF k) = true) : j = k := by
  cases j <;> cases k <;> first | rfl | (exact absurd h (by decide))
theorem kix_self (k : IntKind) : Nat.beq (kixF k) (kixF k) = true := by cases k <;> rfl
theorem wr_nat {k : IntKind} {n : Nat} (h : Nat.ble n (bndF k) = true) : wr k (.ofNat n) = .ofNat n := by
  have h := Nat.ble_eq.mp h
  have : fits k (.ofNat n) = true := by
    cases k <;> simp only [bndF] at h <;> simp only [fits, Nat.blt_eq] <;> omega
  unfold wr
  simp only [this]
/-- A reckoned number: if it is from 0 on, and fits. -/
def natF (k : IntKind) (n : Nat) (kont : AV → R) (d : R) : R := Nat.rec (motive := fun _ => R)
  (Bool.rec (motive := fun _ => R) d (kont (.int k (.ofNat 0))) (Nat.ble 0 (bndF k))) (fun m _ => Bool.rec (motive := fun _ => R) d (kont (.int k (.ofNat (Nat.succ m)))) (Nat.ble (Nat.succ m) (bndF k))) n
theorem natF_eq (k : IntKind) (n : Nat) (kont : AV → R) (d : R) : natF k n kont d = match Nat.ble n (bndF k) with | true => kont (.int k (.ofNat n)) | false => d := by
  cases n with
  | zero => show Bool.rec (motive := fun _ => R) d (kont (.int k (.ofNat 0))) (Nat.ble 0 (bndF k)) = _; cases Nat.ble 0 (bndF k) <;> rfl
  | succ m => show Bool.rec (motive := fun _ => R) d (kont (.int k (.ofNat (Nat.succ m)))) (Nat.ble (Nat.succ m) (bndF k)) = _; cases Nat.ble (Nat.succ m) (bndF k) <;> rfl
def tF (kont : AV → R) (b : Bool) : R := Bool.rec (motive := fun _ => R) (kont (.bool false)) (kont (.bool true)) b
theorem tF_eq (kont : AV → R) (b : Bool) : tF kont b = kont (.bool b) := by cases b <;> rfl

/-- Two numbers from 0 on. -/
abbrev NN := IntKind → Nat → Nat → (AV → R) → R → R
def dF : NN := fun _ _ _ _ d => d
def addF : NN := fun k a b kont d => natF k (Nat.add a b) kont d
def subF : NN := fun k a b kont d => Bool.rec (motive := fun _ => R) d (natF k (Nat.sub a b) kont d) (Nat.ble b a)
def mulF : NN := fun k a b kont d => natF k (Nat.mul a b) kont d
def eqlF : NN := fun _ a b kont _ => tF kont (Nat.beq a b)
def neqF : NN := fun _ a b kont _ => Bool.rec (motive := fun _ => R) (kont (.bool true)) (kont (.bool false)) (Nat.beq a b)
def lssF : NN := fun _ a b kont _ => tF kont (Nat.ble (Nat.succ a) b)
def leqF : NN := fun _ a b kont _ => tF kont (Nat.ble a b)
def gtrF : NN := fun _ a b kont _ => tF kont (Nat.ble (Nat.succ b) a)
def geqF : NN := fun _ a b kont _ => tF kont (Nat.ble b a)
def intF : BinOp → NN := BinOp.rec (motive := fun _ => NN) addF subF mulF dF dF dF dF dF dF dF dF eqlF neqF lssF leqF gtrF geqF
theorem intF_eq (op : BinOp) (k : IntKind) (a b : Nat) (kont : AV → R) (d : R) :
    intF op k a b kont d = d ∨ ∃ v, intOp op k (.ofNat a) (.ofNat b) = some v ∧ intF op k a b kont d = kont v := by
  have cmp : ∀ (p : Bool) (q : Prop) [Decidable q], p = decide q → tF kont p = kont (.bool (decide q)) := fun p q _ h => by rw [tF_eq, h]
  cases op
  case add =>
    refine (Bool.eq_false_or_eq_true (Nat.ble (a + b) (bndF k))).elim (fun h => .inr ⟨_, rfl, ?_⟩) (fun h => .inl ?_)
    · show natF k (a + b) kont d = _
      rw [natF_eq, h]
      show kont (.int k (.ofNat (a + b))) = kont (.int k (wr k (.ofNat (a + b))))
      rw [wr_nat h]
    · show natF k (a + b) kont d = _
      rw [natF_eq, h]
  case sub =>
    show Bool.rec (motive := fun _ => R) d (natF k (Nat.sub a b) kont d) (Nat.ble b a) = d ∨ _
    cases hab : Nat.ble b a with
    | false => exact .inl rfl
    | true =>
      have hab' := Nat.ble_eq.mp hab
      refine (Bool.eq_false_or_eq_true (Nat.ble (a - b) (bndF k))).elim (fun h => .inr ⟨_, rfl, ?_⟩) (fun h => .inl ?_)
      · show Bool.rec (motive := fun _ => R) d (natF k (Nat.sub a b) kont d) (Nat.ble b a) = _
        rw [hab]
        show natF k (a - b) kont d = _
        rw [natF_eq, h]
        show kont (.int k (.ofNat (a - b))) = kont (.int k (wr k (Int.ofNat a - Int.ofNat b)))
        have e : Int.ofNat a - Int.ofNat b = Int.ofNat (a - b) := (Int.ofNat_sub hab').symm
        rw [e, wr_nat h]
      · show natF k (a - b) kont d = _
        rw [natF_eq, h]
  case mul =>
    refine (Bool.eq_false_or_eq_true (Nat.ble (a * b) (bndF k))).elim (fun h => .inr ⟨_, rfl, ?_⟩) (fun h => .inl ?_)
    · show natF k (a * b) kont d = _
      rw [natF_eq, h]
      show kont (.int k (.ofNat (a * b))) = kont (.int k (wr k (.ofNat (a * b))))
      rw [wr_nat h]
    · show natF k (a * b) kont d = _
      rw [natF_eq, h]
  case eql => exact .inr ⟨_, rfl, cmp _ _ (by rw [Bool.eq_iff_iff]; simp; omega)⟩
  case neq =>
    refine .inr ⟨_, rfl, ?_⟩
    show Bool.rec (motive := fun _ => R) (kont (.bool true)) (kont (.bool false)) (Nat.beq a b) = _
    have : Nat.beq a b = decide (Int.ofNat a = Int.ofNat b) := by rw [Bool.eq_iff_iff]; simp; omega
    rw [this]
    cases decide (Int.ofNat a = Int.ofNat b) <;> rfl
  case lss => exact .inr ⟨_, rfl, cmp _ _ (by rw [Bool.eq_iff_iff]; simp; omega)⟩
  case leq => exact .inr ⟨_, rfl, cmp _ _ (by rw [Bool.eq_iff_iff]; simp)⟩
  case gtr => exact .inr ⟨_, rfl, cmp _ _ (by rw [Bool.eq_iff_iff]; simp; omega)⟩
  case geq => exact .inr ⟨_, rfl, cmp _ _ (by rw [Bool.eq_iff_iff]; simp)⟩
  all_goals exact .inl rfl

/- The handlers. -/
abbrev VH := Ctx → Fr → St → (AV → R) → R → R
def vMove (x : Operand) : VH := fun _ fr _ k _ => opdF x fr k
def vPick (c a b : Operand) : VH := fun _ fr _ k d => opdF c fr fun cv => boolK cv (fun q => Bool.rec (motive := fun _ => R) (opdF b fr k) (opdF a fr k) q) d
def shF (X : Ctx) (t : TypeId) : Nat := match X.und t, X.size t with
  | some d, some n => match isAggD d with
    | true => n + 2
    | false => 1
  | _, _ => 0
def loadC : Nat → Tr AV → Nat → (AV → R) → R → R := Nat.rec (motive := fun _ => Tr AV → Nat → (AV → R) → R → R) (fun _ _ _ d => d)
  (fun m _ => Nat.rec (motive := fun _ => Tr AV → Nat → (AV → R) → R → R) (fun c off k d => Option.rec d k (c.get off)) (fun n _ c off k d => Option.rec d (fun l => k (.agg l)) (ldL c off n)) m)
def abK : AB → (Tr AV → Nat → R) → R → R := AB.rec (motive := fun _ => (Tr AV → Nat → R) → R → R) (fun c n k _ => k c n) (fun _ _ d => d) (fun _ _ _ _ _ _ d => d) (fun _ d => d)
def cellsK : Option AB → (Tr AV → Nat → R) → R → R := Option.rec (motive := fun _ => (Tr AV → Nat → R) → R → R) (fun _ d => d) abK
theorem cellsK_eq (s : St) (b : Nat) (k : Tr AV → Nat → R) (d : R) : cellsK (s.h.get b) k d = match s.cells b with | some (c, n) => k c n | none => d := by
  unfold St.cells
  cases hg : s.h.get b with
  | none => rfl
  | some ab => cases ab <;> rfl
def vLoad (t : TypeId) (a : Operand) : VH := fun X fr s k d => opdF a fr fun p => ptrK p (fun b off => cellsK (s.h.get b) (fun c _ => loadC (shF X t) c off (k) (d)) (d)) (d)
def frcT {α : Type} (t : Tr α) (k : Tr α → R) : R := kT t k
theorem frcT_eq {α : Type} (t : Tr α) (k : Tr α → R) : frcT t k = k t := kT_eq t k
def sz1F (X : Ctx) (t : TypeId) : Bool := match X.size t with
  | some n => Nat.beq 1 n
  | none => false
def hStore (t : TypeId) (a x : Operand) : H := fun X call o fr s k => opdF a fr fun p => opdF x fr fun v => ptrK p (fun b off => cellsK (s.h.get b) (fun c m =>
  Bool.rec (motive := fun _ => R) (slowF X call o fr s k) (oneK v (Option.rec (motive := fun _ => R) (slowF X call o fr s k) (fun _ => c.putK off v fun c => s.h.putK b (.cells c m) fun h => putF o.dst (.tup []) fr { s with h := h } k) (c.get off)) (slowF X call o fr s k)) (sz1F X t)) (slowF X call o fr s k)) (slowF X call o fr s k)
def strF : BinOp → Str → Str → (AV → R) → R → R := BinOp.rec (motive := fun _ => Str → Str → (AV → R) → R → R) (fun _ _ _ d => d) (fun _ _ _ d => d) (fun _ _ _ d => d) (fun _ _ _ d => d) (fun _ _ _ d => d) (fun _ _ _ d => d) (fun _ _ _ d => d) (fun _ _ _ d => d) (fun _ _ _ d => d) (fun _ _ _ d => d) (fun _ _ _ d => d)
  (fun x y k _ => tF k (x.beq y)) (fun x y k _ => Bool.rec (motive := fun _ => R) (k (.bool true)) (k (.bool false)) (x.beq y)) (fun _ _ _ d => d) (fun _ _ _ d => d) (fun _ _ _ d => d) (fun _ _ _ d => d)
def vBin (op : BinOp) (_t : TypeId) (x y : Operand) (_u : TypeId) : VH := fun _ fr _ k d => opdF x fr fun a => opdF y fr fun b =>
  intK a (fun j n => intK b (fun i m => Bool.rec (motive := fun _ => R) (d) (Int.rec (motive := fun _ => R) (fun n => Int.rec (motive := fun _ => R) (fun m => intF op j n m (k) (d)) (fun _ => d) m) (fun _ => d) n) (Nat.beq (kixF j) (kixF i))) (d))
    (strK a (fun x => strK b (fun y => strF op x y (k) (d)) (d)) (d))
def notF : UnOp → Bool := UnOp.rec (motive := fun _ => Bool) false false true false
def vUn (op : UnOp) (_t : TypeId) (x : Operand) : VH := fun _ fr _ k d => Bool.rec (motive := fun _ => R) (d) (opdF x fr fun v => boolK v (fun b => Bool.rec (motive := fun _ => R) (k (.bool true)) (k (.bool false)) b) (d)) (notF op)
def fOffF (X : Ctx) (t : TypeId) (i : Nat) : Option Nat := match X.und t with
  | some (.struct fs) => match fs.toList[i]? with
    | some f => match X.size f.type with
      | some (_ + 1) => some f.offset
      | _ => none
    | none => none
  | _ => none
def frcN (n : Nat) (k : Nat → R) : R := Nat.rec (motive := fun _ => R) (k 0) (fun m _ => k (Nat.succ m)) n
theorem frcN_eq (n : Nat) (k : Nat → R) : frcN n k = k n := by cases n <;> rfl
def vFieldAddr (t : TypeId) (x : Operand) (i : Nat) : VH := fun X fr _ k d => opdF x fr fun p => ptrK p (fun b off => Option.rec (motive := fun _ => R) (d) (fun fo => frcN (Nat.add off fo) fun n => k (.ptr (some (b, n)))) (fOffF X t i)) (d)
def elF (X : Ctx) (t : TypeId) : Option Nat := match X.und t with
  | some (.slice elem) => X.size elem
  | _ => none
def vIndexAddr (t : TypeId) (x i : Operand) : VH := fun X fr _ k d => opdF x fr fun p => slcK p (fun b off _ n => opdF i fr fun iv => intK iv (fun _ z => Int.rec (motive := fun _ => R) (fun j => Option.rec (motive := fun _ => R) (d) (fun m => Bool.rec (motive := fun _ => R) (d) (frcN (Nat.add off (Nat.mul j m)) fun q => k (.ptr (some (b, q)))) (Nat.ble (Nat.succ j) n)) (elF X t)) (fun _ => d) z) (d)) (d)
def stF (X : Ctx) (t : TypeId) : Bool := match X.und t with
  | some .string => true
  | _ => false
def vIndex (t : TypeId) (x i : Operand) : VH := fun X fr _ k d => Bool.rec (motive := fun _ => R) (d) (opdF x fr fun p => strK p (fun v => opdF i fr fun iv => intK iv (fun _ z => Int.rec (motive := fun _ => R) (fun j => Bool.rec (motive := fun _ => R) (d) (frcN (v.at j) fun q => k (.int .u8 (.ofNat q))) (Nat.ble (Nat.succ j) v.len)) (fun _ => d) z) (d)) (d)) (stF X t)
def nthF : List AV → Nat → Option AV := List.rec (motive := fun _ => Nat → Option AV) (fun _ => none) (fun v _ ih n => Nat.rec (motive := fun _ => Option AV) (some v) (fun m _ => ih m) n)
theorem nthF_eq : ∀ (l : List AV) (n : Nat), nthF l n = l[n]?
  | [], n => by simp; rfl
  | v :: l, 0 => rfl
  | v :: l, n + 1 => by rw [List.getElem?_cons_succ]; exact nthF_eq l n
def vExtract (x : Operand) (i : Nat) : VH := fun _ fr _ k d => opdF x fr fun p => tupK p (fun l => Option.rec (motive := fun _ => R) (d) (k) (nthF l i)) (d)
def argsF : List Operand → Fr → (List AV → R) → R := List.rec (motive := fun _ => Fr → (List AV → R) → R) (fun _ k => k []) (fun x _ ih fr k => opdF x fr fun v => ih fr fun l => k (v :: l))
theorem argsF_eq : ∀ (l : List Operand) (fr : Fr) (k : List AV → R), argsF l fr k = k (l.map fr.opd)
  | [], _, _ => rfl
  | x :: l, fr, k => by
    show opdF x fr (fun v => argsF l fr fun m => k (v :: m)) = _
    rw [opdF_eq, argsF_eq l]
    rfl
def retK : Option CR → (AV → St → R) → (AV → St → R) → R := Option.rec (motive := fun _ => (AV → St → R) → (AV → St → R) → R) (fun _ _ => none) (CR.rec (motive := fun _ => (AV → St → R) → (AV → St → R) → R) (fun v s k _ => k v s) (fun v s _ k => k v s))
def goF (call : Caller) (o : Oper) (fr : Fr) (s : St) (k : Fr → St → R) (g : FuncId) (l : List AV) : R := retK (call (.fn g) l s) (fun v s => putF o.dst v fr s k) (fun v s => some (.pan v, fr, s))
def fnK : Fn → (FuncId → R) → R → R := Fn.rec (motive := fun _ => (FuncId → R) → R → R) (fun f k _ => k f) (fun _ _ d => d) (fun _ _ _ d => d) (fun _ _ _ _ _ d => d) (fun _ _ d => d)
def apF : List AV → List AV → List AV := List.rec (motive := fun _ => List AV → List AV) (fun m => m) (fun v _ ih m => v :: ih m)
theorem apF_eq : ∀ (l m : List AV), apF l m = l ++ m
  | [], _ => rfl
  | v :: l, m => by show v :: apF l m = _; rw [apF_eq l m]; rfl
def hVal (c : Call) (f : Operand) : H := fun X call o fr s k => opdF f fr fun fv => funK fv (fun fn a b => fnK fn (fun g => argsF c.args.toList fr fun l => goF call o fr s k g (apF a (apF l b))) (slowF X call o fr s k)) (slowF X call o fr s k)
def lenArg (X : Ctx) (c : Call) : Option (Operand × Bool) := match c.callee, c.argTypes.toList, c.args.toList with
  | .builtin .len, [t], [x] => match X.und t with
    | some .string => some (x, true)
    | some (.slice _) => some (x, false)
    | _ => none
  | _, _, _ => none
def vLen (c : Call) : VH := fun X fr _ k d => Option.rec (motive := fun _ => R) (d) (fun p => Prod.rec (motive := fun _ => R) (fun x q => opdF x fr fun v => Bool.rec (motive := fun _ => R) (slnK v (fun n => k (.int .i64 (.ofNat n))) (d)) (strK v (fun x => k (.int .i64 (.ofNat x.len))) (d)) q) p) (lenArg X c)
def vNil (x : Operand) : VH := fun _ fr _ k d => opdF x fr fun p => ptrK p (fun _ _ => k p) (d)
def cvF (X : Ctx) (a b : TypeId) : Option IntKind := match X.und a, X.und b with
  | some _, some (.int k) => some k
  | _, _ => none
def vConvert (a b : TypeId) (x : Operand) : VH := fun X fr _ k d => Option.rec (motive := fun _ => R) (d) (fun j => opdF x fr fun v => intK v (fun _ z => Int.rec (motive := fun _ => R) (fun n => Bool.rec (motive := fun _ => R) (d) (k (.int j (.ofNat n))) (Nat.ble n (bndF j))) (fun _ => d) z) (d)) (cvF X a b)
def slTop (X : Ctx) (t : TypeId) : Bool := match X.und t with
  | some .string => true
  | _ => false
def bndF2 (lo : Option Operand) (fr : Fr) (m : Nat) (k : Nat → R) (d : R) : R := Option.rec (motive := fun _ => R) (k m) (fun x => opdF x fr fun v => intK v (fun _ z => Int.rec (motive := fun _ => R) k (fun _ => d) z) d) lo
def vSlice (t : TypeId) (x : Operand) (lo hi mx : Option Operand) : VH := fun X fr _ k d => Bool.rec (motive := fun _ => R) d (Option.rec (motive := fun _ => R) (opdF x fr fun p => strK p (fun a => bndF2 hi fr a.len (fun h => bndF2 lo fr 0 (fun l => Bool.rec (motive := fun _ => R) d (Bool.rec (motive := fun _ => R) d (frcN (Nat.sub h l) fun n => frcN (Nat.mod (Nat.div a.val (Nat.pow 256 (Nat.sub a.len h))) (Nat.pow 256 (Nat.sub h l))) fun q => k (.str ⟨n, q⟩)) (Nat.ble l h)) (Nat.ble h a.len)) d) d) d) (fun _ => d) mx) (slTop X t)
def v0 : VH := fun _ _ _ _ d => d
def calV : Callee → Call → VH := Callee.rec (motive := fun _ => Call → VH) (fun _ _ => v0) (fun _ _ _ => v0) (fun _ c => vLen c)
def vCall (c : Call) : VH := calV c.callee c
def vF : Op → VH := Op.rec (motive := fun _ => VH) vMove vMove vPick (fun _ => v0) (fun _ _ => v0) (fun _ _ => v0) (fun _ _ _ => v0) (fun _ _ _ _ => v0) vLoad (fun _ _ _ => v0) (fun _ => v0) (fun _ => v0) vNil vBin vUn vConvert (fun _ _ => v0) (fun _ _ => v0) (fun _ _ _ => v0) (fun _ _ => v0) (fun _ _ => v0) (fun _ _ _ => v0) vSlice
  vFieldAddr (fun _ _ _ => v0) vIndexAddr vIndex (fun _ _ _ _ => v0) (fun _ _ _ _ => v0) (fun _ _ _ => v0) (fun _ _ _ _ => v0) (fun _ _ => v0) (fun _ _ => v0) (fun _ => v0) (fun _ _ _ _ => v0) vExtract vCall (fun _ => v0) (fun _ => v0) (fun _ => v0) (fun _ _ => v0) (fun _ _ _ => v0) (fun _ _ => v0)
def hOf (v : VH) : H := fun X call o fr s k => v X fr s (fun u => putF o.dst u fr s k) (slowF X call o fr s k)
def calF : Callee → Call → H := Callee.rec (motive := fun _ => Call → H) (fun f c => hVal c f) (fun _ _ _ => slowF) (fun _ c => hOf (vLen c))
def hCall (c : Call) : H := calF c.callee c
def h0 : H := slowF
def opF : Op → H := Op.rec (motive := fun _ => H) (fun x => hOf (vMove x)) (fun x => hOf (vMove x)) (fun a b c => hOf (vPick a b c)) (fun _ => h0) (fun _ _ => h0) (fun _ _ => h0) (fun _ _ _ => h0) (fun _ _ _ _ => h0) (fun t a => hOf (vLoad t a)) hStore (fun _ => h0) (fun _ => h0) (fun x => hOf (vNil x)) (fun p t x y u => hOf (vBin p t x y u)) (fun p t x => hOf (vUn p t x)) (fun a b x => hOf (vConvert a b x)) (fun _ _ => h0) (fun _ _ => h0) (fun _ _ _ => h0) (fun _ _ => h0) (fun _ _ => h0) (fun _ _ _ => h0) (fun t x l h m => hOf (vSlice t x l h m))
  (fun t x i => hOf (vFieldAddr t x i)) (fun _ _ _ => h0) (fun t x i => hOf (vIndexAddr t x i)) (fun t x i => hOf (vIndex t x i)) (fun _ _ _ _ => h0) (fun _ _ _ _ => h0) (fun _ _ _ => h0) (fun _ _ _ _ => h0) (fun _ _ => h0) (fun _ _ => h0) (fun _ => h0) (fun _ _ _ _ => h0) (fun x i => hOf (vExtract x i)) hCall (fun _ => h0) (fun _ => h0) (fun _ => h0) (fun _ _ => h0) (fun _ _ _ => h0) (fun _ _ => h0)
end
end Go.Am
