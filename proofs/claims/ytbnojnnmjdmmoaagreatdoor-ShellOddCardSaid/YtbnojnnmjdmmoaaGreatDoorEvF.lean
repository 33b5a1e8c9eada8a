/- Operations that compute, over named blocks. -/
import Derived.Test.YtbnojnnmjdmmoaaGreatDoorEvE
import Derived.Laws.StructEq
import Derived.ChangeKeysEq
namespace Go.Ev
variable [Sym]

/-! ### Comparing -/
def scal : TypeDesc → Value → Value → Option Bool
  | .int _, .int k a, .int k' b => bif decide (k = k') then some (a == b) else none
  | .bool, .bool a, .bool b => some (a == b)
  | .string, .string a, .string b => some (a.toList == b.toList)
  | _, _, _ => none

omit [Sym] in
theorem scal_run {P : Program} {t : Nat} {d : TypeDesc} (hu : P.underlying t = some d) (n : Nat) {x y : Value} {b : Bool} (h : scal d x y = some b) (w : World) : (Op.equalIn (n + 1) t x y).run P w = .ok b w := by
  unfold scal at h
  split at h
  · rename_i k a k' b'
    cases hk : decide (k = k') with
    | false => rw [hk] at h; cases h
    | true =>
      rw [hk] at h
      simp only [cond_true, Option.some.injEq] at h
      have : k = k' := of_decide_eq_true hk
      subst this; subst h
      exact run_equalIn_int w n t k _ _ _ hu
  · simp only [Option.some.injEq] at h; subst h; exact run_equalIn_bool' w n t _ _ hu
  · simp only [Option.some.injEq] at h; subst h; exact run_equalIn_string w n t _ _ hu
  · cases h
omit [Sym] in
theorem scal_gnd {d : TypeDesc} {x y : Value} {b : Bool} (h : scal d x y = some b) : gnd x = true ∧ gnd y = true := by
  unfold scal at h
  split at h <;> first | exact ⟨rfl, rfl⟩ | cases h

def aeqs (T : TT) (xs ys : List Value) : List (Nat × Nat) → Option Bool
  | [] => some true
  | (off, t) :: r =>
    match T t, xs[off]?, ys[off]? with
    | some i, some x, some y =>
      bif isAggD i.desc then none else
      match scal i.desc x y with
      | some true => aeqs T xs ys r
      | some false => some false
      | none => none
    | _, _, _ => none

section
variable {P : Program} {T : TT} (hT : TTok T P) {ν : Nat → Slot}
include hT

omit [Sym] in
theorem run_part {t : Nat} {i : TI} (hi : T t = some i) (hag : isAggD i.desc = false) {cs : Array Value} {off : Nat} {v : Value} (hc : cs[off]? = some v) (w : World) : (part t cs off).run P w = .ok v w := by
  unfold part
  simp [run_isAgg hT hi, hag, hc]

theorem aeqs_run (n : Nat) {xs ys xs' ys' : Array Value} (hx : AR ν xs xs') (hy : AR ν ys ys') (w : World) : ∀ (fs : List Field) (b : Bool),
    aeqs T xs.toList ys.toList ((fs.filter fun f => decide (f.name ≠ "_")).map (fun f => (f.offset, f.type))) = some b → (Op.eqFields (n + 1) xs' ys' fs).run P w = .ok b w
  | [], b, h => by simp only [List.filter_nil, List.map_nil, aeqs, Option.some.injEq] at h; subst h; rfl
  | f :: fs, b, h => by
    unfold Op.eqFields
    by_cases hf : f.name ≠ "_"
    · rw [if_pos hf]
      rw [List.filter_cons_of_pos (by simpa using hf)] at h
      simp only [List.map_cons, aeqs] at h
      split at h
      · rename_i i x y hi hxo hyo
        cases hag : isAggD i.desc with
        | true => rw [hag] at h; cases h
        | false =>
          rw [hag] at h
          simp only [cond_false] at h
          have hu := hT.und _ _ hi
          obtain ⟨x', hx1, hx2⟩ := hx.toList.getElem? hxo
          obtain ⟨y', hy1, hy2⟩ := hy.toList.getElem? hyo
          have px := run_part hT hi hag (cs := xs') (off := f.offset) (v := x') (by simpa using hx1) w
          have py := run_part hT hi hag (cs := ys') (off := f.offset) (v := y') (by simpa using hy1) w
          simp only [Sem.run_bind, px, py, Result.andThen_ok]
          split at h
          · rename_i hs
            have g := scal_gnd hs
            rw [hx2.grd_inv g.1, hy2.grd_inv g.2]
            simp only [scal_run hu n hs, Result.andThen_ok, Bool.not_true, Bool.false_eq_true, if_false]
            exact aeqs_run n hx hy w fs b h
          · rename_i hs
            have g := scal_gnd hs
            rw [hx2.grd_inv g.1, hy2.grd_inv g.2]
            simp only [Option.some.injEq] at h
            subst h
            simp only [scal_run hu n hs, Result.andThen_ok, Bool.not_false, if_true, Sem.run_pure]
          · cases h
      · cases h
    · rw [if_neg hf]
      rw [List.filter_cons_of_neg (by simpa using hf)] at h
      exact aeqs_run n hx hy w fs b h

theorem aitems_run (n : Nat) {xs ys xs' ys' : Array Value} (hx : AR ν xs xs') (hy : AR ν ys ys') (w : World) (e c : Nat) : ∀ (is : List Nat) (b : Bool),
    aeqs T xs.toList ys.toList (is.map fun k => (k * c, e)) = some b → (Op.eqItems (n + 1) e c xs' ys' is).run P w = .ok b w
  | [], b, h => by simp only [List.map_nil, aeqs, Option.some.injEq] at h; subst h; rfl
  | k :: is, b, h => by
    unfold Op.eqItems
    simp only [List.map_cons, aeqs] at h
    split at h
    · rename_i i x y hi hxo hyo
      cases hag : isAggD i.desc with
      | true => rw [hag] at h; cases h
      | false =>
        rw [hag] at h
        simp only [cond_false] at h
        have hu := hT.und _ _ hi
        obtain ⟨x', hx1, hx2⟩ := hx.toList.getElem? hxo
        obtain ⟨y', hy1, hy2⟩ := hy.toList.getElem? hyo
        have px := run_part hT hi hag (cs := xs') (off := k * c) (v := x') (by simpa using hx1) w
        have py := run_part hT hi hag (cs := ys') (off := k * c) (v := y') (by simpa using hy1) w
        simp only [Sem.run_bind, px, py, Result.andThen_ok]
        split at h
        · rename_i hs
          have g := scal_gnd hs
          rw [hx2.grd_inv g.1, hy2.grd_inv g.2]
          simp only [scal_run hu n hs, Result.andThen_ok, Bool.not_true, Bool.false_eq_true, if_false]
          exact aitems_run n hx hy w e c is b h
        · rename_i hs
          have g := scal_gnd hs
          rw [hx2.grd_inv g.1, hy2.grd_inv g.2]
          simp only [Option.some.injEq] at h
          subst h
          simp only [scal_run hu n hs, Result.andThen_ok, Bool.not_false, if_true, Sem.run_pure]
        · cases h
    · cases h
end

def isScal : TypeDesc → Bool
  | .int _ | .bool | .string => true
  | _ => false

def nilEq (d : TypeDesc) : Value → Value → Option Bool
  | .pointer none, .pointer b => match d with | .pointer _ => some b.isNone | _ => none
  | .pointer (some _), .pointer none => match d with | .pointer _ => some false | _ => none
  | .slice none _ _, .slice b _ _ => match d with | .slice _ => some b.isNone | _ => none
  | .slice (some _) _ _, .slice none _ _ => match d with | .slice _ => some false | _ => none
  | .map none, .map b => match d with | .map _ _ => some b.isNone | _ => none
  | .map (some _), .map none => match d with | .map _ _ => some false | _ => none
  | .nilFunc, .nilFunc => match d with | .func _ _ _ => some true | _ => none
  | .nilFunc, .func _ _ _ => match d with | .func _ _ _ => some false | _ => none
  | .func _ _ _, .nilFunc => match d with | .func _ _ _ => some false | _ => none
  | .bool a, .bool b => match d with | .bool => some (a == b) | _ => none
  | _, _ => none

/-- What '==' tells. -/
def aeq (T : TT) (t : TypeId) (x y : Value) : Option Bool :=
  match T t with
  | some i =>
    match x, y with
    | .agg xs, .agg ys => match i.desc with
      | .array n e => (match T e with | some j => bif isScal j.desc then aeqs T xs.toList ys.toList ((List.range n).map fun k => (k * j.size, e)) else none | none => none)
      | _ => match i.eqf with | some l => aeqs T xs.toList ys.toList l | none => none
    | x, y => nilEq i.desc x y
  | none => none

section
variable {P : Program} {t : Nat} (n : Nat) (w : World)
omit [Sym] in
theorem eqn_ptr1 {e : Nat} (hu : P.underlying t = some (.pointer e)) (b : Option Addr) : (Op.equalIn (n + 1) t (.pointer none) (.pointer b)).run P w = .ok b.isNone w := by
  unfold Op.equalIn; rw [Sem.run_bind, run_underlying hu]; rfl
omit [Sym] in
theorem eqn_ptr2 {e : Nat} (hu : P.underlying t = some (.pointer e)) (a : Addr) : (Op.equalIn (n + 1) t (.pointer (some a)) (.pointer none)).run P w = .ok false w := by
  unfold Op.equalIn; rw [Sem.run_bind, run_underlying hu]; rfl
omit [Sym] in
theorem eqn_slc1 {e : Nat} (hu : P.underlying t = some (.slice e)) (b : Option Addr) (i j k l : Nat) : (Op.equalIn (n + 1) t (.slice none i j) (.slice b k l)).run P w = .ok b.isNone w := by
  unfold Op.equalIn; rw [Sem.run_bind, run_underlying hu]; rfl
omit [Sym] in
theorem eqn_slc2 {e : Nat} (hu : P.underlying t = some (.slice e)) (a : Addr) (i j k l : Nat) : (Op.equalIn (n + 1) t (.slice (some a) i j) (.slice none k l)).run P w = .ok false w := by
  unfold Op.equalIn; rw [Sem.run_bind, run_underlying hu]; rfl
omit [Sym] in
theorem eqn_map1 {e f : Nat} (hu : P.underlying t = some (.map e f)) (b : Option Nat) : (Op.equalIn (n + 1) t (.map none) (.map b)).run P w = .ok b.isNone w := by
  unfold Op.equalIn; rw [Sem.run_bind, run_underlying hu]; rfl
omit [Sym] in
theorem eqn_map2 {e f : Nat} (hu : P.underlying t = some (.map e f)) (a : Nat) : (Op.equalIn (n + 1) t (.map (some a)) (.map none)).run P w = .ok false w := by
  unfold Op.equalIn; rw [Sem.run_bind, run_underlying hu]; rfl
omit [Sym] in
theorem eqn_fn1 {x y : Array Nat} {z : Bool} (hu : P.underlying t = some (.func x y z)) : (Op.equalIn (n + 1) t .nilFunc .nilFunc).run P w = .ok true w := by
  unfold Op.equalIn; rw [Sem.run_bind, run_underlying hu]; rfl
omit [Sym] in
theorem eqn_fn2 {x y : Array Nat} {z : Bool} (hu : P.underlying t = some (.func x y z)) (f : Fn) (a c : Array Value) : (Op.equalIn (n + 1) t .nilFunc (.func f a c)).run P w = .ok false w := by
  unfold Op.equalIn; rw [Sem.run_bind, run_underlying hu]; rfl
omit [Sym] in
theorem eqn_fn3 {x y : Array Nat} {z : Bool} (hu : P.underlying t = some (.func x y z)) (f : Fn) (a c : Array Value) : (Op.equalIn (n + 1) t (.func f a c) .nilFunc).run P w = .ok false w := by
  unfold Op.equalIn; rw [Sem.run_bind, run_underlying hu]; rfl
end

section
variable {ν : Nat → Slot}
theorem VR.nilp_inv {v : Value} (h : VR ν (.pointer none) v) : v = .pointer none := h.grd_inv rfl
theorem VR.somep_inv {a : Addr} {v : Value} (h : VR ν (.pointer (some a)) v) : ∃ a', v = .pointer (some a') := by
  cases h with
  | grd _ h => cases h
  | ptr => exact ⟨_, rfl⟩
  | ptrD => exact ⟨_, rfl⟩
theorem VR.anyp_inv {a : Option Addr} {v : Value} (h : VR ν (.pointer a) v) : ∃ a', v = .pointer a' ∧ a'.isNone = a.isNone := by
  cases a with
  | none => exact ⟨none, h.nilp_inv, rfl⟩
  | some a => obtain ⟨a', e⟩ := h.somep_inv; exact ⟨some a', e, rfl⟩
theorem VR.somes_inv {a : Addr} {n c : Nat} {v : Value} (h : VR ν (.slice (some a) n c) v) : ∃ a' c', v = .slice (some a') n c' := by
  cases h with
  | grd _ h => cases h
  | slc => exact ⟨_, _, rfl⟩
  | slcD => exact ⟨_, _, rfl⟩
  | slc0 => exact ⟨_, _, rfl⟩
theorem VR.anys_inv {a : Option Addr} {n c : Nat} {v : Value} (h : VR ν (.slice a n c) v) : ∃ a' c', v = .slice a' n c' ∧ a'.isNone = a.isNone := by
  cases a with
  | none => obtain ⟨e, rfl, rfl⟩ := h.nilslice_inv; exact ⟨none, 0, e, rfl⟩
  | some a => obtain ⟨a', c', e⟩ := h.somes_inv; exact ⟨some a', c', e, rfl⟩
theorem VR.somem_inv {a : Nat} {v : Value} (h : VR ν (.map (some a)) v) : ∃ a', v = .map (some a') := by
  cases h with
  | grd _ h => cases h
  | map => exact ⟨_, rfl⟩
  | mapD => exact ⟨_, rfl⟩
theorem VR.anym_inv {a : Option Nat} {v : Value} (h : VR ν (.map a) v) : ∃ a', v = .map a' ∧ a'.isNone = a.isNone := by
  cases a with
  | none => exact ⟨none, h.grd_inv rfl, rfl⟩
  | some a => obtain ⟨a', e⟩ := h.somem_inv; exact ⟨some a', e, rfl⟩
theorem VR.fn_inv {f : Fn} {a c : Array Value} {v : Value} (h : VR ν (.func f a c) v) : ∃ a' c', v = .func f a' c' ∧ AR ν a a' ∧ AR ν c c' := by
  cases h with
  | grd _ h => cases h
  | fn _ _ _ a' c' h1 h2 h3 h4 => exact ⟨a', c', rfl, ⟨h1, h2⟩, ⟨h3, h4⟩⟩

theorem nilEq_run {P : Program} {t : Nat} {d : TypeDesc} (hu : P.underlying t = some d) (n : Nat) {x y x' y' : Value} {b : Bool} (h : nilEq d x y = some b)
    (hx : VR ν x x') (hy : VR ν y y') (w : World) : (Op.equalIn (n + 1) t x' y').run P w = .ok b w := by
  unfold nilEq at h
  split at h
  · split at h
    · simp only [Option.some.injEq] at h; subst h
      obtain ⟨a', rfl, e⟩ := hy.anyp_inv
      rw [hx.nilp_inv, eqn_ptr1 n w hu, e]
    · cases h
  · split at h
    · simp only [Option.some.injEq] at h; subst h
      obtain ⟨a', rfl⟩ := hx.somep_inv
      rw [hy.nilp_inv, eqn_ptr2 n w hu]
    · cases h
  · split at h
    · simp only [Option.some.injEq] at h; subst h
      obtain ⟨a', c', rfl, e⟩ := hy.anys_inv
      obtain ⟨ex, _, _⟩ := hx.nilslice_inv
      rw [ex, eqn_slc1 n w hu, e]
    · cases h
  · split at h
    · simp only [Option.some.injEq] at h; subst h
      obtain ⟨a', c', rfl⟩ := hx.somes_inv
      obtain ⟨ey, _, _⟩ := hy.nilslice_inv
      rw [ey, eqn_slc2 n w hu]
    · cases h
  · split at h
    · simp only [Option.some.injEq] at h; subst h
      obtain ⟨a', rfl, e⟩ := hy.anym_inv
      rw [hx.grd_inv rfl, eqn_map1 n w hu, e]
    · cases h
  · split at h
    · simp only [Option.some.injEq] at h; subst h
      obtain ⟨a', rfl⟩ := hx.somem_inv
      rw [hy.grd_inv rfl, eqn_map2 n w hu]
    · cases h
  · split at h
    · simp only [Option.some.injEq] at h; subst h
      rw [hx.grd_inv rfl, hy.grd_inv rfl, eqn_fn1 n w hu]
    · cases h
  · split at h
    · simp only [Option.some.injEq] at h; subst h
      obtain ⟨a', c', rfl, _⟩ := hy.fn_inv
      rw [hx.grd_inv rfl, eqn_fn2 n w hu]
    · cases h
  · split at h
    · simp only [Option.some.injEq] at h; subst h
      obtain ⟨a', c', rfl, _⟩ := hx.fn_inv
      rw [hy.grd_inv rfl, eqn_fn3 n w hu]
    · cases h
  · split at h
    · simp only [Option.some.injEq] at h; subst h
      rw [hx.grd_inv rfl, hy.grd_inv rfl, run_equalIn_bool' w n t _ _ hu]
    · cases h
  · cases h

theorem aeq_run {P : Program} {T : TT} (hT : TTok T P) {t : Nat} {x y x' y' : Value} {b : Bool} (h : aeq T t x y = some b) (hx : VR ν x x') (hy : VR ν y y') (w : World) :
    (Op.equal t x' y').run P w = .ok b w := by
  unfold aeq at h
  show (Op.equalIn (9999 + 1) t x' y').run P w = .ok b w
  split at h
  · rename_i i hi
    have hu := hT.und _ _ hi
    split at h
    · rename_i xs ys
      split at h
      · rename_i n e hd
        rw [hd] at hu
        split at h
        · rename_i j hj
          obtain ⟨xs', rfl, hx1, hx2⟩ := hx.agg_inv
          obtain ⟨ys', rfl, hy1, hy2⟩ := hy.agg_inv
          obtain ⟨k, hk, hsz, _, _⟩ := hT.info _ _ hj
          cases hsc : isScal j.desc with
          | false => rw [hsc] at h; cases h
          | true =>
          rw [hsc] at h
          have hc : P.cellsOf e = j.size := by unfold Program.cellsOf; rw [hk]; exact hsz
          rw [run_equalIn_array w 9999 xs' ys' hu hk, hc]
          exact aitems_run hT 9998 ⟨hx1, hx2⟩ ⟨hy1, hy2⟩ w e j.size (List.range n) b h
        · cases h
      split at h
      · rename_i l hl
        obtain ⟨fs, hd, hfl, hg, hs⟩ := hT.eqf _ _ _ hi hl
        rw [hd] at hu
        obtain ⟨xs', rfl, hx1, hx2⟩ := hx.agg_inv
        obtain ⟨ys', rfl, hy1, hy2⟩ := hy.agg_inv
        have hfo : P.fieldsOf t = fs := by unfold Program.fieldsOf; rw [hu]
        rw [run_equalIn_struct w 9999 t xs' ys' (by rw [hfo]; exact hu) hs, hfo]
        exact aeqs_run hT 9998 ⟨hx1, hx2⟩ ⟨hy1, hy2⟩ w fs.toList b (by rw [hfl]; exact h)
      · cases h
    · exact nilEq_run hu 9999 h hx hy w
  · cases h
end

end Go.Ev
