/- Digits of small numbers. -/
import Derived.Test.YtbnojnnmjdmmoaaGreatDoorEvYD
import Derived.Test.YtbnojnnmjdmmoaaGreatDoorChecked
import Derived.KernelRfl
namespace Go.Proofs
open Go.Ev

def decD : Nat → Nat → List UInt8
  | 0, _ => []
  | k + 1, u => bif Nat.blt u 10 then [UInt8.ofNat (48 + u)] else decD k (u / 10) ++ [UInt8.ofNat (48 + u % 10)]
def dig (m : Nat) : List UInt8 := decD 4 m
def noh : Hint := fun _ _ => none
def nosp : Nat → Option ASpec := fun _ => none
noncomputable def callB : CallG := callQ Tryz.prog nosp noh 100 8
def strE (v : Option Value) (l : List UInt8) : Bool := match v with | some (.string s) => decide (s.data.toList = l) | _ => false
def numE (v : Option Value) (n : Int) (b : Bool) : Bool := match v with | some (.tuple vs) => (match vs.toList with | [.int .i64 k, .bool c] => decide (k = n) && (c == b) | _ => false) | _ => false
noncomputable def okDig (m : Nat) : Bool := strE (runC callB 11 [.int .i64 (.ofNat m)]) (dig m)
noncomputable def okNum (m : Nat) : Bool := numE (runC callB 30 [.string ⟨(dig m).toArray⟩]) m true
noncomputable def okNum0 (m : Nat) : Bool := numE (runC callB 30 [.string ⟨(48 :: dig m).toArray⟩]) 0 false
noncomputable def okNumM (m : Nat) : Bool := numE (runC callB 30 [.string ⟨(45 :: dig m).toArray⟩]) 0 false
def fromTo (a n : Nat) : List Nat := (List.range n).map (a + ·)
end Go.Proofs
