/- What the tokens of ShellOdd's run mean, and what operations on them come to. -/
import Derived.Test.YtbnojnnmjdmmoaaGreatDoorOddDig
import Derived.Test.YtbnojnnmjdmmoaaGreatDoorOddWords
namespace Go.Proofs
open Go.Ev

def bs (l : List UInt8) : ByteArray := ⟨l.toArray⟩
def first30 (s : ByteArray) : ByteArray := s.extract 0 (min s.size 30)
def fw (s : ByteArray) : List UInt8 := fstW (first30 s).data.toList
def num8 (n : Int) : Int := IntKind.u64.wrap n
def mm (n : Int) : Nat := ((num8 n).tmod 1000).toNat

def oddVal (which n : Int) (s : ByteArray) : Nat → Value
  | 1 => .int .i64 which
  | 2 => .int .i64 n
  | 3 => .string s
  | 4 => .int .i64 (s.size : Nat)
  | 5 => .int .i64 ((min s.size 30 : Nat) : Int)
  | 6 => .string (first30 s)
  | 7 => .string (bs (fw s))
  | 8 => .int .u64 (num8 n)
  | 9 => .int .u64 (mm n : Nat)
  | 10 => .int .i64 (mm n : Nat)
  | 11 => .string (bs (dig (mm n)))
  | 12 => .int .u64 (num8 which)
  | 20 => .string (bs ([116, 105, 99, 107, 32, 48] ++ dig (mm n)))
  | 21 => .string (bs ([116, 105, 99, 107, 32, 45] ++ dig (mm n)))
  | 22 => .string (bs ([112, 105, 99, 107, 32] ++ dig (mm n)))
  | 23 => .string (bs ([112, 105, 99, 107, 32, 57, 32] ++ dig (mm n)))
  | 24 => .string (bs ([114, 101, 115, 116, 32] ++ fw s))
  | 25 => .string (bs ([111, 117, 116, 115, 32] ++ dig (mm n)))
  | 26 => .string (bs ([112, 108, 97, 110, 32] ++ fw s))
  | 30 => .string (bs (48 :: dig (mm n)))
  | 31 => .string (bs (45 :: dig (mm n)))
  | 40 => .int .i64 (mm n : Nat)
  | _ => .int .i64 0

def pow10A : Array Value := ((List.range 20).map fun i => Value.int .u64 ((10 ^ i : Nat) : Int)).toArray
def oddGl (mx : Int) : Nat → Option (Array Value)
  | 0 => some #[.int .i64 mx]
  | 1 => some pow10A
  | _ => none

@[reducible] def oddSym (which n mx : Int) (s : ByteArray) : Sym where
  val := oddVal which n s
  plain := fun k => by unfold oddVal; split <;> rfl
  one := fun k => by unfold oddVal; split <;> rfl
  gl := oddGl mx

def isStr (v : Value) (l : List UInt8) : Bool := match v with | .string s => decide (s.data.toList = l) | _ => false
theorem isStr_spec {v : Value} {l : List UInt8} (h : isStr v l = true) : v = .string (bs l) := by
  unfold isStr at h
  split at h
  · rename_i s
    have := of_decide_eq_true h
    obtain ⟨d⟩ := s
    simp only at this
    rw [← this]
    rfl
  · cases h

/-- What is told of operations. -/
def hAdd : List Value → Option Value
  | [a, .iface 11 .nilFunc] =>
    bif isStr a [116, 105, 99, 107, 32, 48] then some (tok 20) else bif isStr a [116, 105, 99, 107, 32, 45] then some (tok 21) else bif isStr a [112, 105, 99, 107, 32] then some (tok 22)
    else bif isStr a [112, 105, 99, 107, 32, 57, 32] then some (tok 23) else bif isStr a [111, 117, 116, 115, 32] then some (tok 25) else none
  | [a, .iface 7 .nilFunc] => bif isStr a [114, 101, 115, 116, 32] then some (tok 24) else bif isStr a [112, 108, 97, 110, 32] then some (tok 26) else none
  | _ => none
def hBin (k : Nat) (o : BinOp) (vs : List Value) : Option Value :=
  match o with
  | .add => hAdd vs
  | .rem => match vs with
    | [.iface 8 .nilFunc, .int .u64 1000] => some (tok 9)
    | [.iface 12 .nilFunc, .int .u64 17] => some (.int .u64 k)
    | _ => none
  | .eql => match vs with
    | [.iface n .nilFunc, b] => bif (Nat.ble 20 n && Nat.ble n 26) && isStr b [] then some (.bool false) else none
    | _ => none
  | .leq => match vs with
    | [.iface 40 .nilFunc, .int .i64 10000] => some (.bool true)
    | _ => none
  | _ => none
def hConv (s d : Nat) (vs : List Value) : Option Value :=
  bif Nat.beq s 3 && Nat.beq d 34 then (match vs with
    | [.iface 2 .nilFunc] => some (tok 8)
    | [.iface 1 .nilFunc] => some (tok 12)
    | _ => none)
  else bif Nat.beq s 34 && Nat.beq d 3 then (match vs with
    | [.iface 9 .nilFunc] => some (tok 10)
    | _ => none)
  else none
def hBuilt (b : Builtin) (ts : List TypeId) (vs : List Value) : Option Value :=
  match b with
  | .len => match ts, vs with
    | [9], [.iface 3 .nilFunc] => some (tok 4)
    | _, _ => none
  | .min => match vs with
    | [.iface 4 .nilFunc, .int .i64 30] => some (tok 5)
    | _ => none
  | _ => none
def hintO (k : Nat) : Hint := fun o vs => match o with
  | .binOp op _ _ _ _ => hBin k op vs
  | .convert s d _ => hConv s d vs
  | .slice t _ none (some _) none => bif Nat.beq t 9 then (match vs with
    | [.iface 3 .nilFunc, .iface 5 .nilFunc] => some (tok 6)
    | _ => none) else none
  | .call c => match c.callee with
    | .builtin b => hBuilt b c.argTypes.toList vs
    | _ => none
  | _ => none

theorem Tryz.tt3 : (TTof Tryz.prog 3).map (·.desc) = some (.int .i64) := by kernel_rfl
theorem Tryz.tt34 : (TTof Tryz.prog 34).map (·.desc) = some (.int .u64) := by kernel_rfl
theorem Tryz.tt9 : (TTof Tryz.prog 9).map (·.desc) = some .string := by kernel_rfl

theorem dig_some : ((List.range 1000).all fun m => Nat.blt 0 (dig m).length && Nat.blt (dig m).length 4 && (dig m).all fun b => Nat.ble 48 b.toNat && Nat.ble b.toNat 57) = true := by kernel_rfl
theorem mm_lt (n : Int) : mm n < 1000 := by
  unfold mm
  have := Int.tmod_lt_of_pos (num8 n) (b := 1000) (by omega)
  omega
theorem dig_spec (m : Nat) (h : m < 1000) : 0 < (dig m).length ∧ (dig m).length < 4 ∧ ∀ b ∈ dig m, 48 ≤ b.toNat ∧ b.toNat ≤ 57 := by
  have := List.all_eq_true.1 dig_some m (List.mem_range.2 h)
  simp only [Bool.and_eq_true, List.all_eq_true] at this
  refine ⟨?_, ?_, fun b hb => ?_⟩
  · simpa [Nat.blt_eq] using this.1.1
  · simpa [Nat.blt_eq] using this.1.2
  · have := this.2 b hb
    exact ⟨Nat.le_of_ble_eq_true this.1, Nat.le_of_ble_eq_true this.2⟩

theorem bs_size (l : List UInt8) : (bs l).size = l.length := by simp [bs, ByteArray.size]
theorem bs_append (a b : List UInt8) : bs a ++ bs b = bs (a ++ b) := by
  apply ByteArray.ext
  simp [bs, ByteArray.data_append]
theorem add_str (a b : List UInt8) (h : a.length + b.length < 1000) (t : Nat) : pr (binOp .add t (.string (bs a)) (.string (bs b))) = some (.string (bs (a ++ b))) := by
  show pr (Op.stringOp .add (bs a) (bs b)) = _
  unfold Op.stringOp
  simp only [bs_size, bs_append]
  rw [if_neg]
  · rfl
  · have : IntKind.max .i64 = 9223372036854775807 := by decide
    rw [this]; omega
end Go.Proofs
