/- The base of an abstract interpreter: trees, named blocks, and what it means that a world fits them. -/
import Derived.Orders
import Derived.Laws.Rows
import Derived.Laws.LoneSync
import Derived.KernelRfl
namespace Go.Ev

/-! ### Trees: from numbers to things -/
theorem beqN {i j : Nat} (h : i ≠ j) : Nat.beq i j = false := by
  cases hb : Nat.beq i j with
  | false => rfl
  | true => exact (h (Nat.eq_of_beq_eq_true hb)).elim

structure Oct (α : Type) where
  a : α
  b : α
  c : α
  d : α
  e : α
  f : α
  g : α
  h : α

def kvGet {α : Type} : List (Nat × α) → Nat → Option α
  | [], _ => none
  | (k, x) :: r, j => bif Nat.beq k j then some x else kvGet r j

def kvDel {α : Type} : List (Nat × α) → Nat → List (Nat × α)
  | [], _ => []
  | (k, x) :: r, j => bif Nat.beq k j then kvDel r j else (k, x) :: kvDel r j

def kvPut {α : Type} : List (Nat × α) → Nat → α → List (Nat × α)
  | [], j, y => [(j, y)]
  | (k, x) :: r, j, y => bif Nat.beq k j then (j, y) :: r else (k, x) :: kvPut r j y

def kvSet {α : Type} (l : List (Nat × α)) (j : Nat) : Option α → List (Nat × α)
  | some y => kvPut l j y
  | none => kvDel l j

theorem kvGet_put {α : Type} (l : List (Nat × α)) (j k : Nat) (y : α) : kvGet (kvPut l j y) k = if k = j then some y else kvGet l k := by
  induction l with
  | nil =>
    simp only [kvPut, kvGet]
    by_cases h : k = j
    · subst h; simp
    · have : Nat.beq j k = false := beqN (fun e => h e.symm)
      simp [this, h]
  | cons p r ih =>
    obtain ⟨i, x⟩ := p
    simp only [kvPut]
    by_cases hij : i = j
    · subst hij
      simp only [Nat.beq_refl, cond_true, kvGet]
      by_cases h : k = i
      · subst h; simp
      · have : Nat.beq i k = false := beqN (fun e => h e.symm)
        simp [this, h]
    · have hb : Nat.beq i j = false := beqN hij
      simp only [hb, cond_false, kvGet, ih]
      by_cases h : i = k
      · subst h; simp [hij]
      · have : Nat.beq i k = false := beqN h
        simp [this]

theorem kvGet_del {α : Type} (l : List (Nat × α)) (j k : Nat) : kvGet (kvDel l j) k = if k = j then none else kvGet l k := by
  induction l with
  | nil => simp [kvDel, kvGet]
  | cons p r ih =>
    obtain ⟨i, x⟩ := p
    simp only [kvDel]
    by_cases hij : i = j
    · subst hij
      simp only [Nat.beq_refl, cond_true, kvGet, ih]
      by_cases h : k = i
      · subst h; simp
      · have : Nat.beq i k = false := beqN (fun e => h e.symm)
        simp [this, h]
    · have hb : Nat.beq i j = false := beqN hij
      simp only [hb, cond_false, kvGet, ih]
      by_cases h : i = k
      · subst h; simp [hij]
      · have : Nat.beq i k = false := beqN h
        simp [this]

theorem kvGet_set {α : Type} (l : List (Nat × α)) (j k : Nat) (y : Option α) : kvGet (kvSet l j y) k = if k = j then y else kvGet l k := by
  cases y with
  | some y => exact kvGet_put l j k y
  | none => exact kvGet_del l j k

def bitA (i : Nat) : Bool := Nat.beq (i % 2) 0
def bitB (i : Nat) : Bool := Nat.beq (i / 2 % 2) 0
def bitC (i : Nat) : Bool := Nat.beq (i / 4 % 2) 0

def Oct.get {α : Type} (x y z : Bool) (o : Oct α) : α :=
  bif x then (bif y then (bif z then o.a else o.b) else (bif z then o.c else o.d)) else (bif y then (bif z then o.e else o.f) else (bif z then o.g else o.h))
def Oct.set {α : Type} (x y z : Bool) (q : α → α) (o : Oct α) : Oct α :=
  bif x then (bif y then (bif z then ⟨q o.a, o.b, o.c, o.d, o.e, o.f, o.g, o.h⟩ else ⟨o.a, q o.b, o.c, o.d, o.e, o.f, o.g, o.h⟩) else (bif z then ⟨o.a, o.b, q o.c, o.d, o.e, o.f, o.g, o.h⟩ else ⟨o.a, o.b, o.c, q o.d, o.e, o.f, o.g, o.h⟩))
  else (bif y then (bif z then ⟨o.a, o.b, o.c, o.d, q o.e, o.f, o.g, o.h⟩ else ⟨o.a, o.b, o.c, o.d, o.e, q o.f, o.g, o.h⟩) else (bif z then ⟨o.a, o.b, o.c, o.d, o.e, o.f, q o.g, o.h⟩ else ⟨o.a, o.b, o.c, o.d, o.e, o.f, o.g, q o.h⟩))
theorem Oct.get_same {α : Type} (x y z : Bool) (q : α → α) (o : Oct α) : (o.set x y z q).get x y z = q (o.get x y z) := by cases x <;> cases y <;> cases z <;> rfl
theorem Oct.get_other {α : Type} (x y z x' y' z' : Bool) (q : α → α) (o : Oct α) : (o.set x y z q).get x' y' z' = o.get x' y' z' ∨ (x' = x ∧ y' = y ∧ z' = z) := by
  cases x <;> cases y <;> cases z <;> cases x' <;> cases y' <;> cases z' <;> first | exact .inl rfl | exact .inr ⟨rfl, rfl, rfl⟩
def Oct.all {α : Type} (v : α) : Oct α := ⟨v, v, v, v, v, v, v, v⟩

structure Tr (α : Type) where
  t : Oct (Oct (Oct (List (Nat × α))))
def Tr.emp {α : Type} : Tr α := ⟨Oct.all (Oct.all (Oct.all []))⟩

def Tr.row {α : Type} (t : Tr α) (k : Nat) : List (Nat × α) :=
  ((t.t.get (bitA k) (bitB k) (bitC k)).get (bitA (k / 8)) (bitB (k / 8)) (bitC (k / 8))).get (bitA (k / 64)) (bitB (k / 64)) (bitC (k / 64))
def Tr.get {α : Type} (t : Tr α) (k : Nat) : Option α := kvGet (t.row k) k
def Tr.set {α : Type} (t : Tr α) (k : Nat) (x : Option α) : Tr α :=
  ⟨t.t.set (bitA k) (bitB k) (bitC k) (Oct.set (bitA (k / 8)) (bitB (k / 8)) (bitC (k / 8)) (Oct.set (bitA (k / 64)) (bitB (k / 64)) (bitC (k / 64)) fun l => kvSet l k x))⟩
theorem Tr.row_set {α : Type} (t : Tr α) (k j : Nat) (x : Option α) : (t.set k x).row j = t.row j ∨ (t.set k x).row j = kvSet (t.row j) k x := by
  unfold Tr.row Tr.set
  simp only
  rcases Oct.get_other (bitA k) (bitB k) (bitC k) (bitA j) (bitB j) (bitC j) (Oct.set (bitA (k / 8)) (bitB (k / 8)) (bitC (k / 8)) (Oct.set (bitA (k / 64)) (bitB (k / 64)) (bitC (k / 64)) fun l => kvSet l k x)) t.t with h | ⟨h1, h2, h3⟩
  · rw [h]; exact .inl rfl
  · rw [h1, h2, h3, Oct.get_same]
    generalize t.t.get (bitA k) (bitB k) (bitC k) = u
    rcases Oct.get_other (bitA (k / 8)) (bitB (k / 8)) (bitC (k / 8)) (bitA (j / 8)) (bitB (j / 8)) (bitC (j / 8)) (Oct.set (bitA (k / 64)) (bitB (k / 64)) (bitC (k / 64)) fun l => kvSet l k x) u with h | ⟨h1, h2, h3⟩
    · rw [h]; exact .inl rfl
    · rw [h1, h2, h3, Oct.get_same]
      generalize u.get (bitA (k / 8)) (bitB (k / 8)) (bitC (k / 8)) = u'
      rcases Oct.get_other (bitA (k / 64)) (bitB (k / 64)) (bitC (k / 64)) (bitA (j / 64)) (bitB (j / 64)) (bitC (j / 64)) (fun l => kvSet l k x) u' with h | ⟨h1, h2, h3⟩
      · rw [h]; exact .inl rfl
      · rw [h1, h2, h3, Oct.get_same]
        exact .inr rfl
theorem Tr.row_same {α : Type} (t : Tr α) (k : Nat) (x : Option α) : (t.set k x).row k = kvSet (t.row k) k x := by
  unfold Tr.row Tr.set
  simp only [Oct.get_same]
theorem Tr.get_set {α : Type} (t : Tr α) (k j : Nat) (x : Option α) : (t.set k x).get j = if j = k then x else t.get j := by
  unfold Tr.get
  by_cases h : j = k
  · subst h
    rw [Tr.row_same, kvGet_set]
  · rw [if_neg h]
    rcases Tr.row_set t k j x with e | e
    · rw [e]
    · rw [e, kvGet_set, if_neg h]
theorem Oct.get_all {α : Type} (x y z : Bool) (v : α) : (Oct.all v).get x y z = v := by cases x <;> cases y <;> cases z <;> rfl
theorem Tr.get_emp {α : Type} (k : Nat) : (Tr.emp : Tr α).get k = none := by
  unfold Tr.get Tr.row Tr.emp
  simp only [Oct.get_all]
  rfl

/-! ### Named blocks -/
inductive Slot where
  | un
  | dead
  | live (b sz : Nat)
  deriving DecidableEq

inductive Blk where
  | cells (cs : List Value) (T : TypeId) (ro : Bool)
  | map (es : List (Value × Value))

structure Hp where
  blk : Tr Blk
  next : Nat

def Hp.get (h : Hp) (n : Nat) : Option Blk := h.blk.get n
def Hp.put (h : Hp) (n : Nat) (b : Blk) : Hp := { h with blk := h.blk.set n (some b) }
def Hp.kill (h : Hp) (n : Nat) : Hp := { h with blk := h.blk.set n none }
def Hp.new (h : Hp) (b : Blk) : Hp := { blk := h.blk.set h.next (some b), next := h.next + 1 }
def Hp.has (h : Hp) (n : Nat) : Prop := (h.get n).isSome = true

theorem Hp.get_put (h : Hp) (n m : Nat) (b : Blk) : (h.put n b).get m = if m = n then some b else h.get m := Tr.get_set _ _ _ _
theorem Hp.get_kill (h : Hp) (n m : Nat) : (h.kill n).get m = if m = n then none else h.get m := Tr.get_set _ _ _ _
theorem Hp.get_new (h : Hp) (m : Nat) (b : Blk) : (h.new b).get m = if m = h.next then some b else h.get m := Tr.get_set _ _ _ _

/-- A value without an address, that is what it says. -/
def gnd : Value → Bool
  | .bool _ | .int _ _ | .float _ _ | .complex _ _ _ | .string _ | .nilFunc | .nilIface => true
  | .pointer none | .map none | .chan none => true
  | .slice none n c => Nat.beq n 0 && Nat.beq c 0
  | .tuple vs => Nat.beq vs.size 0
  | _ => false

/-- Values that stand for what is not known: plain ones. -/
class Sym where
  val : Nat → Value
  plain : ∀ n, gnd (val n) = true
  one : ∀ n, (val n).oneCell' = true
  gl : Nat → Option (Array Value)
variable [Sym]

/-- What is not known. -/
def tok (n : Nat) : Value := .iface n .nilFunc

/-- A value with names, and one with addresses. -/
inductive VR (ν : Nat → Slot) : Value → Value → Prop
  | grd (v : Value) (h : gnd v = true) : VR ν v v
  | ptr (n off b sz : Nat) (h : ν n = .live b sz) : VR ν (.pointer (some ⟨n, off, none⟩)) (.pointer (some ⟨b, off, none⟩))
  | ptrD (n off : Nat) (a : Addr) (h : ν n = .dead) (hs : a.spot = none) : VR ν (.pointer (some ⟨n, off, none⟩)) (.pointer (some a))
  | slc (n off len e b sz cap : Nat) (h : ν n = .live b sz) (hl : len ≤ cap) (hc : off + cap * e ≤ sz) : VR ν (.slice (some ⟨n, off, none⟩) len e) (.slice (some ⟨b, off, none⟩) len cap)
  | slcD (n off len e cap : Nat) (a : Addr) (h : ν n = .dead) (hs : a.spot = none) (hl : len ≤ cap) : VR ν (.slice (some ⟨n, off, none⟩) len e) (.slice (some a) len cap)
  | slc0 (n off e cap : Nat) (a : Addr) (hs : a.spot = none) : VR ν (.slice (some ⟨n, off, some 0⟩) 0 e) (.slice (some a) 0 cap)
  | map (n b sz : Nat) (h : ν n = .live b sz) : VR ν (.map (some n)) (.map (some b))
  | mapD (n b : Nat) (h : ν n = .dead) : VR ν (.map (some n)) (.map (some b))
  | agg (cs cs' : Array Value) (hs : cs.size = cs'.size) (h : ∀ (i : Nat) (v v' : Value), cs[i]? = some v → cs'[i]? = some v' → VR ν v v') : VR ν (.agg cs) (.agg cs')
  | tup (cs cs' : Array Value) (hs : cs.size = cs'.size) (h : ∀ (i : Nat) (v v' : Value), cs[i]? = some v → cs'[i]? = some v' → VR ν v v') : VR ν (.tuple cs) (.tuple cs')
  | fn (f : Fn) (a c a' c' : Array Value) (hs : a.size = a'.size) (h : ∀ (i : Nat) (v v' : Value), a[i]? = some v → a'[i]? = some v' → VR ν v v') (hs2 : c.size = c'.size)
      (h2 : ∀ (i : Nat) (v v' : Value), c[i]? = some v → c'[i]? = some v' → VR ν v v') : VR ν (.func f a c) (.func f a' c')
  | sym (n : Nat) : VR ν (.iface n .nilFunc) (Sym.val n)

/-- How names may go on. -/
def Le (ν ν' : Nat → Slot) : Prop := ∀ n, ν n ≠ .un → ν' n = ν n ∨ ν' n = .dead

omit [Sym] in
theorem Le.refl (ν : Nat → Slot) : Le ν ν := fun _ _ => .inl rfl
omit [Sym] in
theorem Le.trans {ν ν' ν'' : Nat → Slot} (h : Le ν ν') (h' : Le ν' ν'') : Le ν ν'' := by
  intro n hn
  rcases h n hn with e | e
  · rcases h' n (by rw [e]; exact hn) with e' | e'
    · exact .inl (e'.trans e)
    · exact .inr e'
  · rcases h' n (by rw [e]; exact fun x => by cases x) with e' | e'
    · exact .inr (e'.trans e)
    · exact .inr e'

theorem VR.mono {ν ν' : Nat → Slot} (hle : Le ν ν') {v v' : Value} (h : VR ν v v') : VR ν' v v' := by
  induction h with
  | grd v h => exact .grd v h
  | ptr n off b sz h =>
    rcases hle n (by rw [h]; exact fun x => by cases x) with e | e
    · exact .ptr n off b sz (e.trans h)
    · exact .ptrD n off _ e rfl
  | ptrD n off a h hs =>
    rcases hle n (by rw [h]; exact fun x => by cases x) with e | e
    · exact .ptrD n off a (e.trans h) hs
    · exact .ptrD n off a e hs
  | slc n off len e b sz cap h hl hc =>
    rcases hle n (by rw [h]; exact fun x => by cases x) with e' | e'
    · exact .slc n off len e b sz cap (e'.trans h) hl hc
    · exact .slcD n off len e cap _ e' rfl hl
  | slcD n off len e cap a h hs hl =>
    rcases hle n (by rw [h]; exact fun x => by cases x) with e' | e'
    · exact .slcD n off len e cap a (e'.trans h) hs hl
    · exact .slcD n off len e cap a e' hs hl
  | slc0 n off e cap a hs => exact .slc0 n off e cap a hs
  | map n b sz h =>
    rcases hle n (by rw [h]; exact fun x => by cases x) with e | e
    · exact .map n b sz (e.trans h)
    · exact .mapD n b e
  | mapD n b h =>
    rcases hle n (by rw [h]; exact fun x => by cases x) with e | e
    · exact .mapD n b (e.trans h)
    · exact .mapD n b e
  | agg cs cs' hs h ih => exact .agg cs cs' hs ih
  | tup cs cs' hs h ih => exact .tup cs cs' hs ih
  | fn f a c a' c' hs h hs2 h2 ih ih2 => exact .fn f a c a' c' hs ih hs2 ih2
  | sym n => exact .sym n

end Go.Ev
