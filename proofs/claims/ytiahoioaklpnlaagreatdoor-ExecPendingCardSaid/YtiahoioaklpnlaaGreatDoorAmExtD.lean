/-
  FUNCTIONS WITHOUT A BODY, and what a run may take by its contract: definitions.
-/
import Derived.Test.YtiahoioaklpnlaaGreatDoorAmEv
namespace Go.Am
noncomputable section
/- A text's sum, bit by bit. -/
def stepN (c : Nat) : Nat := match Nat.beq (Nat.mod c 2) 1 with
  | true => Nat.xor (Nat.div c 2) 2197175160
  | false => Nat.div c 2
def stepsN : Nat → Nat → Nat
  | 0, c => c
  | j + 1, c => kN (stepN c) fun c => stepsN j c
def crcGo (x : Str) : Nat → Nat → Nat → Nat
  | 0, _, c => c
  | n + 1, i, c => kN (stepsN 8 (Nat.xor c (x.at i))) fun c => kN (i + 1) fun i => crcGo x n i c
def crcN (x : Str) : Nat := crcGo x x.len 0 4294967295
def sumOwn : List AV → St → Option CR
  | [.str x], s => match Nat.ble x.len 1000000000 with
    | true => some (.ret (.int .u32 (.ofNat (Nat.xor 4294967295 (crcN x)))) s)
    | false => none
  | _, _ => none
/- math.Float64bits, math.Float64frombits -/
def f64bits : List AV → St → Option CR
  | [.flt .f64 b], s => some (.ret (.int .u64 (.ofNat b)) s)
  | _, _ => none
def f64from : List AV → St → Option CR
  | [.int .u64 (.ofNat n)], s => some (.ret (.flt .f64 n) s)
  | _, _ => none
/- bytealg.IndexByteString -/
def idxGo (x : Str) (c : Nat) : Nat → Nat → Option Nat
  | 0, _ => none
  | n + 1, i => match Nat.beq (x.at i) c with
    | true => some i
    | false => kN (i + 1) fun i => idxGo x c n i
def idxRes : Option Nat → AV
  | some i => .int .i64 (.ofNat i)
  | none => .int .i64 (.negSucc 0)
def idxByte : List AV → St → Option CR
  | [.str x, .int .u8 (.ofNat c)], s => match Nat.blt c 256 with
    | true => some (.ret (idxRes (idxGo x c x.len 0)) s)
    | false => none
  | _, _ => none
/- slices.Sorted(maps.Keys(m)) at strings -/
def insS (x : Str) : List Str → List Str
  | [] => [x]
  | y :: l => match y.lt x with
    | true => y :: insS x l
    | false => x :: y :: l
def sortS : List Str → List Str
  | [] => []
  | x :: l => insS x (sortS l)
def keysOf : List (AV × AV) → Option (List Str)
  | [] => some []
  | (.str k, _) :: es => match Nat.ble k.len 1000000000, keysOf es with
    | true, some l => some (k :: l)
    | _, _ => none
  | _ => none
def sortedRes (s : St) : List AV → CR
  | [] => .ret (.slc none 0 0 true) s
  | v :: l =>
    let r := s.newC (Tr.of (v :: l)) (v :: l).length
    .ret (.slc (some (r.1, 0, 1)) (v :: l).length (v :: l).length false) r.2
def sortedMap (s : St) (es : List (AV × AV)) : Option CR := match Nat.ble es.length 1000000, keysOf es with
  | true, some l => some (kL ((sortS l).map AV.str) fun vs => sortedRes s vs)
  | _, _ => none
def sortedAt (s : St) : Option (AB) → Option CR
  | some (.map es) => sortedMap s es
  | _ => none
def sortedBox (s : St) : Option AV → Option CR
  | some (.map (some r)) => sortedAt s (s.h.get r)
  | _ => none
def sortedOwn (kfs : List Nat) : List AV → St → Option CR
  | [.func (.func g) [] [.ptr (some (b, 0))]], s => match hasN g kfs, hasN b s.sh, s.cells b with
    | true, false, some (c, _) => sortedBox s (c.get 0)
    | _, _, _ => none
  | _, _ => none
end
end Go.Am
