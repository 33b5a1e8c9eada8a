/- What is told of functions in ShellOdd's run. -/
import Derived.Test.YtbnojnnmjdmmoaaGreatDoorOddSym
namespace Go.Proofs
open Go.Ev

def rItoa : List Value → Option Value
  | [.int .i64 (.ofNat n)] => bif Nat.blt n 100000 then some (.string (bs (decD 20 n))) else none
  | _ => none
def sp0 : Nat → Option ASpec
  | 213 => some (pureR rIndex)
  | 152 => some (pureR rCount)
  | 177 => some (sLoad .u64)
  | 178 => some sStore
  | 32 => some (pureR rItoa)
  | _ => none
noncomputable def C0 : CallG := callQ Tryz.prog sp0 noh 100 30
def poolL (n : Nat) : Lits := [(n, .cells [.int .u64 4294966272] 182 false), (n + 1, .cells [.slice (some ⟨n, 0, none⟩) 1 1, .int .u32 0, .int .i32 0, .int .u32 0] 208 false), (n + 2, .cells [.pointer (some ⟨n + 1, 0, none⟩), .int .i64 10] 220 false)]
noncomputable def poolF (n : Nat) : ASpec := localF C0 80 (poolL n) (n + 3) [.pointer (some ⟨n + 2, 0, none⟩)]
noncomputable def sp1 : Nat → Option ASpec
  | 213 => some (pureR rIndex)
  | 152 => some (pureR rCount)
  | 177 => some (sLoad .u64)
  | 178 => some sStore
  | 32 => some (pureR rItoa)
  | 80 => some (altS (poolF 34) (altS (poolF 37) (poolF 40)))
  | 58 => some (localF C0 58 [] 0 [.agg #[.int .i64 1, .int .u32 3221225985, .int .i64 1000, .int .i64 1009, .int .i64 4, .int .i64 4]])
  | _ => none
def bres (o : Option (Value × Hp)) : Bool := match o with | some (.bool b, _) => b | _ => false
noncomputable def C1 : CallG := callQ Tryz.prog sp1 noh 1000 60

def rSpeaks : List Value → Option Value
  | [] => some (.bool true)
  | _ => none
def rWords (m : Nat) : List Value → Option (Nat × Nat × List Value × TypeId)
  | [.iface 6 .nilFunc] => some (m + 1, 1, [tok 7], 9)
  | _ => none
def rDigits : List Value → Option Value
  | [.iface 10 .nilFunc] => some (tok 11)
  | _ => none
def rCut : List Value → Option Value
  | [.iface n .nilFunc, p] => bif isStr p [112, 108, 97, 110, 32] then
      (bif Nat.beq n 26 then some (.tuple #[tok 7, .bool true]) else bif Nat.ble 20 n && Nat.ble n 25 then some (.tuple #[tok n, .bool false]) else none)
    else none
  | _ => none
def str (l : List UInt8) : Value := .string (bs l)
def splitT : Nat → Option (List Value)
  | 20 => some [str [116, 105, 99, 107], tok 30]
  | 21 => some [str [116, 105, 99, 107], tok 31]
  | 22 => some [str [112, 105, 99, 107], tok 11]
  | 23 => some [str [112, 105, 99, 107], str [57], tok 11]
  | 24 => some [str [114, 101, 115, 116], tok 7]
  | 25 => some [str [111, 117, 116, 115], tok 11]
  | 7 => some [tok 7]
  | _ => none
def rSplit : List Value → Option (Nat × Nat × List Value × TypeId)
  | [.iface n .nilFunc, p] => bif isStr p [32] then (match splitT n with
    | some l => some (l.length, 1, l, 9)
    | none => none) else none
  | _ => none
def rNumber : List Value → Option Value
  | [.iface n .nilFunc] => match n with
    | 30 => some (.tuple #[.int .i64 0, .bool false])
    | 31 => some (.tuple #[.int .i64 0, .bool false])
    | 11 => some (.tuple #[tok 40, .bool true])
    | _ => none
  | _ => none
def spO (m : Nat) : Nat → Option ASpec
  | 213 => some (pureR rIndex)
  | 152 => some (pureR rCount)
  | 177 => some (sLoad .u64)
  | 178 => some sStore
  | 32 => some (pureR rItoa)
  | 5 => some (pureR rSpeaks)
  | 10 => some (rowR (rWords m))
  | 11 => some (pureR rDigits)
  | 13 => some (pureR rCut)
  | 25 => some (rowR rSplit)
  | 30 => some (pureR rNumber)
  | _ => none
noncomputable def CO (m k : Nat) : CallG := callQ Tryz.prog (spO m) (hintO k) 1000 60
end Go.Proofs
