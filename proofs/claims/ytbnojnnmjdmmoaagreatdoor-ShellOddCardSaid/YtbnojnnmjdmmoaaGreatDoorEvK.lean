/- One operation (but for calls of functions). -/
import Derived.Test.YtbnojnnmjdmmoaaGreatDoorEvJ
namespace Go.Ev
variable [Sym]

abbrev Env := Tr Value
def aev (τ : Env) : Operand → Option Value
  | .tmp t => τ.get t
  | .const v => bif cst v then some v else none
  | .func f => some (.func (.func f) #[] #[])
  | .global _ => none

def aevs (τ : Env) : List Operand → Option (List Value)
  | [] => some []
  | x :: r => match aev τ x, aevs τ r with
    | some v, some l => some (v :: l)
    | _, _ => none
def aparts (τ : Env) : List (Nat × Operand) → Option (List (Nat × Value))
  | [] => some []
  | (i, x) :: r => match aev τ x, aparts τ r with
    | some v, some l => some ((i, v) :: l)
    | _, _ => none

/-- The slots that are known. -/
def EnvR (ν : Nat → Slot) (τ : Env) (a : Act) : Prop := ∀ t v, τ.get t = some v → ∃ v', a.tmps[t]? = some v' ∧ VR ν v v'

section
variable {ν : Nat → Slot} {τ : Env} {a : Act}
theorem EnvR.mono {ν' : Nat → Slot} (hle : Le ν ν') (e : EnvR ν τ a) : EnvR ν' τ a := fun t v h => by
  obtain ⟨v', h1, h2⟩ := e t v h
  exact ⟨v', h1, h2.mono hle⟩
theorem aev_sound (e : EnvR ν τ a) {x : Operand} {v : Value} (h : aev τ x = some v) : VR ν v (a.eval x) := by
  cases x with
  | tmp t =>
    obtain ⟨v', h1, h2⟩ := e t v h
    simpa [Act.eval, h1] using h2
  | const u =>
    simp only [aev] at h
    cases hc : cst u with
    | false => rw [hc] at h; cases h
    | true =>
      rw [hc] at h
      simp only [cond_true, Option.some.injEq] at h
      subst h
      exact cst_VR hc
  | func f =>
    simp only [aev, Option.some.injEq] at h
    subst h
    exact .fn _ _ _ _ _ rfl (fun i v v' a _ => by simp at a) rfl (fun i v v' a _ => by simp at a)
  | global g => cases h
theorem aevs_sound (e : EnvR ν τ a) : ∀ {l : List Operand} {vs : List Value}, aevs τ l = some vs → LR ν vs (l.map a.eval)
  | [], vs, h => by simp only [aevs, Option.some.injEq] at h; subst h; exact LR.nil
  | x :: r, vs, h => by
    simp only [aevs] at h
    split at h
    · rename_i v l hv hl
      simp only [Option.some.injEq] at h
      subst h
      exact LR.cons (aev_sound e hv) (aevs_sound e hl)
    · cases h
theorem aparts_sound (e : EnvR ν τ a) : ∀ {l : List (Nat × Operand)} {vs : List (Nat × Value)}, aparts τ l = some vs → PR ν vs (l.map fun (i, x) => (i, a.eval x))
  | [], vs, h => by simp only [aparts, Option.some.injEq] at h; subst h; exact .nil
  | (i, x) :: r, vs, h => by
    simp only [aparts] at h
    split at h
    · rename_i v l hv hl
      simp only [Option.some.injEq] at h
      subst h
      exact .cons _ _ _ _ _ (aev_sound e hv) (aparts_sound e hl)
    · cases h

def putD (τ : Env) (d : Option Tmp) (v : Value) : Env := match d with | some t => τ.set t (some v) | none => τ
theorem EnvR.put (e : EnvR ν τ a) {d : Option Tmp} {v v' : Value} (hv : VR ν v v') (hd : ∀ t, d = some t → t < a.tmps.size) :
    EnvR ν (putD τ d v) (a.put d v') := by
  cases d with
  | none => exact e
  | some t =>
    intro t' u h
    simp only [Act.put, putD] at h ⊢
    rw [Tr.get_set] at h
    split at h
    · rename_i e'
      subst e'
      simp only [Option.some.injEq] at h
      subst h
      exact ⟨v', by simp [hd _ rfl], hv⟩
    · rename_i e'
      obtain ⟨u', h1, h2⟩ := e t' u h
      exact ⟨u', by rw [Array.getElem?_setIfInBounds_ne (fun x => e' x.symm)]; exact h1, h2⟩
end

def alen (T : TT) (t : TypeId) (x : Value) : Option Value :=
  match T t, x with
  | some i, .slice _ n _ => match i.desc with | .slice _ => some (goInt n) | _ => none
  | some i, .string s => match i.desc with | .string => some (goInt s.size) | _ => none
  | _, _ => none

def abuiltin (T : TT) (b : Builtin) (ts : List TypeId) (vs : List Value) (h : Hp) : Option (Value × Hp) :=
  match b with
  | .len => match ts, vs with
    | [t], [x] => match alen T t x with | some v => some (v, h) | none => none
    | _, _ => none
  | .append => match ts, vs with
    | [t, t'], [x, y] => bif Nat.beq t t' then aappend T t x y h else none
    | _, _ => none
  | .min => bif vs.all gnd then (match okG (pr (Builtin.min_ #[] 0 vs.toArray)) with | some v => some (v, h) | none => none) else none
  | .max => bif vs.all gnd then (match okG (pr (Builtin.max_ #[] 0 vs.toArray)) with | some v => some (v, h) | none => none) else none
  | _ => none

def un (v : Option Value) (h : Hp) : Option (Value × Hp) := match v with | some v => some (v, h) | none => none

def oev (τ : Env) : Option Operand → Option (Option Value)
  | none => some none
  | some x => match aev τ x with | some v => some (some v) | none => none

def aop (T : TT) (o : Op) (τ : Env) (h : Hp) : Option (Value × Hp) :=
  match o with
  | .move x | .assign x => un (aev τ x) h
  | .pick c x y => match aev τ c with
    | some (.bool true) => un (aev τ x) h
    | some (.bool false) => un (aev τ y) h
    | _ => none
  | .alloc t => match T t with
    | some i => bif i.zero.cells.toList.all gnd then some (.pointer (some ⟨h.next, 0, none⟩), h.new (.cells i.zero.cells.toList t false)) else none
    | none => none
  | .box t x => match aev τ x with
    | some v => some (abox h t v)
    | none => none
  | .build t parts => match aparts τ parts.toList with
    | some l => un (abuild T t l) h
    | none => none
  | .buildSlice t n parts => match aparts τ parts.toList with
    | some l => abuildSlice T t n l h
    | none => none
  | .load t x => match aev τ x with
    | some p => un (aload T t h p) h
    | none => none
  | .store t x y => match aev τ x, aev τ y with
    | some p, some v => match astore T t h p v with | some h' => some (undef, h') | none => none
    | _, _ => none
  | .nilCheck x => match aev τ x with
    | some (.pointer (some a)) => some (.pointer (some a), h)
    | some (.func (.func f) b c) => some (.func (.func f) b c, h)
    | _ => none
  | .binOp op t x y _ => match aev τ x, aev τ y with
    | some u, some v => un (abin T op t u v) h
    | _, _ => none
  | .unOp op _ x => match aev τ x with
    | some u => bif gnd u then un (okG (pr (Op.unary op u))) h else none
    | none => none
  | .convert s d x => match aev τ x with
    | some v => aconv T s d v h
    | none => none
  | .makeFunc fn first cap => match aevs τ first.toList, aevs τ cap.toList with
    | some f, some c => some (.func fn f.toArray c.toArray, h)
    | _, _ => none
  | .makeMap _ none => some (.map (some h.next), h.new (.map []))
  | .makeSlice t l c => match aev τ l, aev τ c with
    | some u, some v => amakeSlice T t u v h
    | _, _ => none
  | .slice t x lo hi none => match aev τ x, oev τ lo, oev τ hi with
    | some v, some l, some u => match v with
      | .string _ | .slice _ _ _ => un (aslice T t v l u) h
      | _ => none
    | _, _, _ => none
  | .fieldAddr t x f => match aev τ x with | some v => un (afieldAddr T t v f) h | none => none
  | .field t x f => match aev τ x with | some v => un (afield T t v f) h | none => none
  | .indexAddr t x y => match aev τ x, aev τ y with | some u, some v => un (aindexAddr T t u v) h | _, _ => none
  | .index t x y => match aev τ x, aev τ y with | some u, some v => un (aindex T t u v) h | _, _ => none
  | .extract x i => match aev τ x with | some v => un (aextract v i) h | none => none
  | .call c => match c.callee with
    | .builtin b => match aevs τ c.args.toList with
      | some vs => abuiltin T b c.argTypes.toList vs h
      | none => none
    | _ => none
  | _ => none

/-- What an operation comes to. -/
def SimO (P : Program) (ν : Nat → Slot) (h : Hp) (w : World) (s : Sem Next) (v : Value) (h' : Hp) : Prop :=
  ∃ nx v' w' ν', s.run P w = .ok nx w' ∧ (nx = .value v' ∨ (nx = .skip ∧ v' = undef)) ∧ VR ν' v v' ∧ Sat ν' h' w' ∧ Post ν h w ν' h' w'

section
variable {P : Program} {T : TT} {ν : Nat → Slot} {h : Hp} {w : World} {τ : Env} {a : Act}
theorem Sim.toO {x : Sem Value} {v : Value} {h' : Hp} (hs : Sim P ν h w x v h') : SimO P ν h w (do Pure.pure (Next.value (← x))) v h' := by
  obtain ⟨v', w', ν', h1, h2, h3, h4⟩ := hs
  exact ⟨.value v', v', w', ν', by simp [h1], .inl rfl, h2, h3, h4⟩
omit [Sym] in
theorem un_spec {o : Option Value} {v : Value} {h' : Hp} (hu : un o h = some (v, h')) : o = some v ∧ h' = h := by
  unfold un at hu
  split at hu
  · simp only [Option.some.injEq, Prod.mk.injEq] at hu
    obtain ⟨rfl, rfl⟩ := hu
    exact ⟨rfl, rfl⟩
  · cases hu
theorem SimO.val (s : Sat ν h w) {x : Sem Next} {v v' : Value} (hr : x.run P w = .ok (.value v') w) (hv : VR ν v v') : SimO P ν h w x v h :=
  ⟨_, v', w, ν, hr, .inl rfl, hv, s, Post.refl ν h w⟩

theorem alen_sound (hT : TTok T P) {t ty : TypeId} {x x' v : Value} (ha : alen T t x = some v) (hx : VR ν x x') : (Builtin.len_ #[t] ty #[x']).run P w = .ok v w ∧ gnd v = true := by
  unfold alen at ha
  split at ha
  · rename_i i y n c hi
    split at ha
    · rename_i e hd
      simp only [Option.some.injEq] at ha
      subst ha
      obtain ⟨a', c', rfl⟩ := hx.slice_any
      have hu : P.underlying t = some (.slice e) := by rw [hT.und _ _ hi, hd]
      exact ⟨by simp [Builtin.len_, run_underlying hu], rfl⟩
    · cases ha
  · rename_i i s hi
    split at ha
    · rename_i hd
      simp only [Option.some.injEq] at ha
      subst ha
      rw [hx.grd_inv rfl]
      have hu : P.underlying t = some .string := by rw [hT.und _ _ hi, hd]
      exact ⟨by simp [Builtin.len_, run_underlying hu], rfl⟩
    · cases ha
  · cases ha

theorem LR.gnd_eq : ∀ {l l' : List Value}, LR ν l l' → l.all gnd = true → l' = l
  | [], [], _, _ => rfl
  | [], _ :: _, h, _ => by have := h.1; simp at this
  | _ :: _, [], h, _ => by have := h.1; simp at this
  | v :: l, v' :: l', h, hg => by
    simp only [List.all_cons, Bool.and_eq_true] at hg
    have h0 : VR ν v v' := h.2 0 v v' rfl rfl
    rw [h0.grd_inv hg.1, LR.gnd_eq (l := l) (l' := l') ⟨by have := h.1; simpa using this, fun i x u a b => h.2 (i + 1) x u (by simpa using a) (by simpa using b)⟩ hg.2]

theorem abuiltin_sound (hT : TTok T P) (s : Sat ν h w) {b : Builtin} {ts : Array TypeId} {ty : TypeId} {cn : Array Bool} {vs : List Value} {vs' : Array Value} {v : Value} {h' : Hp} (ha : abuiltin T b ts.toList vs h = some (v, h')) (hv : LR ν vs vs'.toList) (hf : Fresh ν h h') :
    SimO P ν h w (builtin b ts ty cn vs') v h' := by
  unfold abuiltin at ha
  split at ha
  · split at ha
    · rename_i t x hts
      split at ha
      · rename_i u hu
        simp only [Option.some.injEq, Prod.mk.injEq] at ha
        obtain ⟨rfl, rfl⟩ := ha
        have e1 : ts = #[t] := by apply Array.ext'; simpa using hts
        obtain ⟨x', h1, h2⟩ := hv.getElem? (i := 0) (v := x) rfl
        have e2 : vs' = #[x'] := by
          apply Array.ext'
          have hl := hv.1
          match hq : vs'.toList with
          | [] => rw [hq] at hl; simp at hl
          | [z] => rw [hq] at h1; simp at h1; rw [h1]
          | _ :: _ :: _ => rw [hq] at hl; simp at hl
        subst e1; subst e2
        have hr := alen_sound (P := P) (w := w) (ty := ty) hT hu h2
        exact (Sim.pure s hr.1 (.grd _ hr.2)).toO
      · cases ha
    · cases ha
  · split at ha
    · rename_i t t' x y hts
      cases htt : Nat.beq t t' with
      | false => rw [htt] at ha; cases ha
      | true =>
        rw [htt] at ha
        simp only [cond_true] at ha
        have htt := Nat.eq_of_beq_eq_true htt
        subst htt
        have e1 : ts = #[t, t] := by apply Array.ext'; simpa using hts
        obtain ⟨x', h1, h2⟩ := hv.getElem? (i := 0) (v := x) rfl
        obtain ⟨y', h3, h4⟩ := hv.getElem? (i := 1) (v := y) rfl
        have e2 : vs' = #[x', y'] := by
          apply Array.ext'
          have hl := hv.1
          match hq : vs'.toList with
          | [] => rw [hq] at hl; simp at hl
          | [_] => rw [hq] at hl; simp at hl
          | [z, z2] => rw [hq] at h1 h3; simp at h1 h3; rw [h1, h3]
          | _ :: _ :: _ :: _ => rw [hq] at hl; simp at hl
        subst e1; subst e2
        exact (aappend_sound hT s ha h2 h4 hf).toO
    · cases ha
  · cases hg : vs.all gnd with
    | false => rw [hg] at ha; cases ha
    | true =>
      rw [hg] at ha
      simp only [cond_true] at ha
      split at ha
      · rename_i u hu
        simp only [Option.some.injEq, Prod.mk.injEq] at ha
        obtain ⟨rfl, rfl⟩ := ha
        obtain ⟨o1, o2⟩ := okG_spec hu
        have e2 : vs' = vs.toArray := by apply Array.ext'; rw [hv.gnd_eq hg]
        subst e2
        exact (Sim.pure s (pr_run o1 P w) (.grd _ o2)).toO
      · cases ha
  · cases hg : vs.all gnd with
    | false => rw [hg] at ha; cases ha
    | true =>
      rw [hg] at ha
      simp only [cond_true] at ha
      split at ha
      · rename_i u hu
        simp only [Option.some.injEq, Prod.mk.injEq] at ha
        obtain ⟨rfl, rfl⟩ := ha
        obtain ⟨o1, o2⟩ := okG_spec hu
        have e2 : vs' = vs.toArray := by apply Array.ext'; rw [hv.gnd_eq hg]
        subst e2
        exact (Sim.pure s (pr_run o1 P w) (.grd _ o2)).toO
      · cases ha
  · cases ha
end
end Go.Ev
