/- Calls, regions in the order of the text. -/
import Derived.Test.YtbnojnnmjdmmoaaGreatDoorEvL
import Derived.Tactics
namespace Go.Ev
variable [Sym]

/-- What an operation, a call of a function among them, comes to. -/
def NSim (P : Program) (ν : Nat → Slot) (h : Hp) (w : World) (s : Sem Next) (v : Value) (h' : Hp) : Prop :=
  SimO P ν h w s v h' ∨
  ∃ f args, s.run P w = .ok (.enter f args) w ∧ Calls P f args w fun e w' => ∃ v' ν', e = .returned v' ∧ VR ν' v v' ∧ Sat ν' h' w' ∧ Post ν h w ν' h' w'

abbrev CallG := Nat → List Value → Hp → Option (Value × Hp)
def CallOkD (P : Program) (call : CallG) : Prop :=
  ∀ (f : Nat) (vs : List Value) (h : Hp) (v : Value) (h' : Hp), call f vs h = some (v, h') → h.next ≤ h'.next ∧
    ∀ (ν : Nat → Slot) (w : World) (vs' : Array Value), Sat ν h w → Gl ν h w → LR ν vs vs'.toList → Fresh ν h h' → NSim P ν h w (callFunc f vs') v h'

def aopD (T : TT) (call : CallG) (o : Op) (τ : Env) (h : Hp) : Option (Value × Hp) :=
  match o with
  | .call c => match c.callee with
    | .value x => match aev τ x, aevs τ c.args.toList with
      | some (.func (.func f) first cap), some vs => call f (first.toList ++ vs ++ cap.toList) h
      | _, _ => none
    | .builtin b => match aevs τ c.args.toList with
      | some vs => abuiltin T b c.argTypes.toList vs h
      | none => none
    | _ => none
  | o => aop T o τ h

/-- What may be told of operations on what is not known. -/
def hintable (τ : Env) : Op → Bool
  | .binOp .. | .unOp .. | .index .. | .slice _ _ _ _ none => true
  | .convert _ _ x => match aev τ x with | some (.iface _ _) => true | _ => false
  | .call c => match c.callee with
    | .builtin .len | .builtin .min | .builtin .max => true
    | _ => false
  | _ => false
abbrev Hint := Op → List Value → Option Value
def ahint (hint : Hint) (o : Op) (τ : Env) (h : Hp) : Option (Value × Hp) :=
  bif hintable τ o then match aevs τ o.operands.toList with | some vs => un (hint o vs) h | none => none else none
structure CallF where
  fn : CallG
  hint : Hint
def HintOk (P : Program) (hint : Hint) : Prop :=
  ∀ (o : Op) (vs : List Value) (v : Value), hint o vs = some v → ∀ (ν : Nat → Slot) (x : Oper) (a : Act) (w : World), x.op = o → LR ν vs (o.operands.toList.map a.eval) →
    ∃ v', (execOp a.eval x).run P w = .ok (.value v') w ∧ VR ν v v'
def CallOk (P : Program) (call : CallF) : Prop := CallOkD P call.fn ∧ HintOk P call.hint
def aopC (T : TT) (call : CallF) (o : Op) (τ : Env) (h : Hp) : Option (Value × Hp) :=
  match aopD T call.fn o τ h with
  | some r => some r
  | none => ahint call.hint o τ h
omit [Sym] in
theorem ahint_spec {hint : Hint} {o : Op} {τ : Env} {h h' : Hp} {v : Value} (ha : ahint hint o τ h = some (v, h')) :
    hintable τ o = true ∧ h' = h ∧ ∃ vs, aevs τ o.operands.toList = some vs ∧ hint o vs = some v := by
  unfold ahint at ha
  cases hh : hintable τ o with
  | false => rw [hh] at ha; cases ha
  | true =>
    rw [hh] at ha
    simp only [cond_true] at ha
    split at ha
    · rename_i vs hvs
      obtain ⟨h1, h2⟩ := un_spec ha
      exact ⟨rfl, h2, vs, hvs, h1⟩
    · cases ha

section
variable {P : Program} {T : TT} {ν : Nat → Slot} {h : Hp} {w : World} {τ : Env} {a : Act} {call : CallG}

theorem aopD_sound (hT : TTok T P) (hc : CallOkD P call) (s : Sat ν h w) (g : Gl ν h w) (e : EnvR ν τ a) {o : Oper} {v : Value} {h' : Hp} (ha : aopD T call o.op τ h = some (v, h')) (hf : Fresh ν h h') :
    NSim P ν h w (execOp a.eval o) v h' := by
  unfold aopD at ha
  split at ha
  · rename_i c ho
    split at ha
    · rename_i x hx
      split at ha
      · rename_i f first cap vs hfun hvs
        have hv := aev_sound e hfun
        obtain ⟨first', cap', e1, a1, a2⟩ := hv.fn_inv
        have hl := aevs_sound e hvs
        have hargs : LR ν (first.toList ++ vs ++ cap.toList) ((first' ++ c.args.map a.eval) ++ cap').toList := by
          simp only [Array.toList_append, Array.toList_map]
          exact (a1.toList.append hl).append a2.toList
        have := (hc _ _ _ _ _ ha).2 ν w _ s g hargs hf
        have e2 : execOp a.eval o = (do let d ← resolve a.eval c o.type; invoke d.target d.args) := by unfold execOp; rw [ho]
        rw [e2]
        have e3 : (do let d ← resolve a.eval c o.type; invoke d.target d.args) = callFunc f ((first' ++ c.args.map a.eval) ++ cap') := by
          simp only [resolve, hx, e1, Deferred.ofValue, pure_bind, invoke]
        rw [e3]
        exact this
      · cases ha
    · rename_i b hb
      refine .inl (aop_sound hT s e ?_ hf)
      rw [ho]
      simp only [aop, hb]
      exact ha
    · cases ha
  · exact .inl (aop_sound hT s e ha hf)

theorem aopC_sound {call : CallF} (hT : TTok T P) (hc : CallOk P call) (s : Sat ν h w) (g : Gl ν h w) (e : EnvR ν τ a) {o : Oper} {v : Value} {h' : Hp} (ha : aopC T call o.op τ h = some (v, h')) (hf : Fresh ν h h') :
    NSim P ν h w (execOp a.eval o) v h' := by
  unfold aopC at ha
  split at ha
  · rename_i r hr
    simp only [Option.some.injEq] at ha
    subst ha
    exact aopD_sound hT hc.1 s g e hr hf
  · obtain ⟨_, rfl, vs, hvs, hh⟩ := ahint_spec ha
    obtain ⟨v', h1, h2⟩ := hc.2 _ _ _ hh ν o a w rfl (aevs_sound e hvs)
    exact .inl (SimO.val s h1 h2)

theorem op_wp {o : Oper} {v : Value} {h' : Hp} {K : Act → World → Prop} {Q : Exit → Act → World → Prop} (hs : NSim P ν h w (execOp a.eval o) v h')
    (hK : ∀ v' w' ν', VR ν' v v' → Sat ν' h' w' → Post ν h w ν' h' w' → K (a.put o.dst v') w') : o.wp P a w K Q := by
  unfold Oper.wp
  rcases hs with ⟨nx, v', w', ν', hr, hnx, h1, h2, h3⟩ | ⟨f, args, hr, hcalls⟩
  · rw [hr]
    rcases hnx with rfl | ⟨rfl, rfl⟩
    · exact hK v' w' ν' h1 h2 h3
    · exact hK undef w' ν' h1 h2 h3
  · rw [hr, Oper.upon_enter]
    refine hcalls.mono fun e w' he => ?_
    obtain ⟨v', ν', rfl, h1, h2, h3⟩ := he
    exact hK v' w' ν' h1 h2 h3

/-- A run's state. -/
structure St where
  τ : Env
  h : Hp

/-- Is an operation wanted? (none: it isn't known.) -/
def awant (ops : Array Oper) (o : Oper) (τ : Env) : Option Bool :=
  match o.guard with
  | none => some true
  | some (j, want) => match (ops[j]?).bind (·.dst) with
    | none => some false
    | some d => match τ.get d with
      | some (.bool b) => some (b == want)
      | some (.tuple vs) => bif Nat.beq vs.size 0 then some false else none
      | _ => none

theorem awant_sound (e : EnvR ν τ a) {ops : Array Oper} {o : Oper} {b : Bool} (h : awant ops o τ = some b) : Region.wanted o (yielded ops a.tmps) = b := by
  unfold awant at h
  unfold Region.wanted
  split at h
  · rename_i hg; rw [hg]; simpa using h
  · rename_i j want hg
    rw [hg]
    simp only
    unfold yielded
    split at h
    · rename_i hd
      rw [hd]
      simp only [Option.some.injEq] at h
      subst h
      simp
    · rename_i d hd
      rw [hd]
      simp only [Option.bind_some]
      split at h
      · rename_i b0 hb
        obtain ⟨v', h1, h2⟩ := e _ _ hb
        rw [h2.grd_inv rfl] at h1
        simp only [Option.some.injEq] at h
        subst h
        rw [h1]
        cases b0 <;> cases want <;> rfl
      · rename_i vs hb
        cases hz : Nat.beq vs.size 0 with
        | false => rw [hz] at h; cases h
        | true =>
          rw [hz] at h
          simp only [cond_true, Option.some.injEq] at h
          subst h
          obtain ⟨v', h1, h2⟩ := e _ _ hb
          rw [h2.grd_inv (by simp [gnd, hz])] at h1
          rw [h1]
          simp
      · cases h

/-- Temporaries that are written have room. -/
def roomFor (n : Nat) (l : List Oper) : Bool := l.all fun o => match o.dst with | some t => Nat.blt t n | none => true

def arun (T : TT) (call : CallF) (ops : Array Oper) : List Oper → St → Option St
  | [], st => some st
  | o :: r, st => match awant ops o st.τ with
    | some true => match aopC T call o.op st.τ st.h with
      | some (v, h') => arun T call ops r ⟨putD st.τ o.dst v, h'⟩
      | none => none
    | some false => arun T call ops r ⟨putD st.τ o.dst undef, st.h⟩
    | none => none
end

section
variable {P : Program} {T : TT} {call : CallF}

omit [Sym] in
theorem amakeSlice_next {t : TypeId} {l c v : Value} {h h' : Hp} (ha : amakeSlice T t l c h = some (v, h')) : h.next ≤ h'.next := by
  unfold amakeSlice at ha
  split at ha
  · split at ha
    · split at ha
      · simp only at ha
        generalize hz : (_ && List.all _ _) = z at ha
        cases z with
        | false => cases ha
        | true => simp only [cond_true, Option.some.injEq, Prod.mk.injEq] at ha; rw [← ha.2]; simp [Hp.new]
      · cases ha
    · cases ha
  · cases ha
omit [Sym] in
theorem abuildSlice_next {t : TypeId} {n : Nat} {l : List (Nat × Value)} {v : Value} {h h' : Hp} (ha : abuildSlice T t n l h = some (v, h')) : h.next ≤ h'.next := by
  unfold abuildSlice at ha
  split at ha
  · split at ha
    · split at ha
      · simp only at ha
        generalize hz : (Nat.ble _ _ && _) = z at ha
        cases z with
        | false => cases ha
        | true =>
          simp only [cond_true] at ha
          split at ha
          · simp only [Option.some.injEq, Prod.mk.injEq] at ha; rw [← ha.2]; simp [Hp.new]
          · cases ha
      · cases ha
    · cases ha
  · cases ha
omit [Sym] in
theorem aconv_next {s d : TypeId} {x v : Value} {h h' : Hp} (ha : aconv T s d x h = some (v, h')) : h.next ≤ h'.next := by
  unfold aconv at ha
  split at ha
  · split at ha
    · simp only [Option.some.injEq, Prod.mk.injEq] at ha; rw [← ha.2]; exact Nat.le_refl _
    · cases ha
  · split at ha
    · simp only [Option.some.injEq, Prod.mk.injEq] at ha; rw [← ha.2]; exact Nat.le_refl _
    · split at ha
      · split at ha
        · simp only [Option.some.injEq, Prod.mk.injEq] at ha; rw [← ha.2]; simp [Hp.new]
        · cases ha
      · cases ha
    · cases ha
  · split at ha
    · split at ha
      · split at ha
        · split at ha
          · split at ha
            · simp only [Option.some.injEq, Prod.mk.injEq] at ha; rw [← ha.2]; exact Nat.le_refl _
            · cases ha
          · cases ha
        · cases ha
      · cases ha
    · cases ha
  · split at ha
    · split at ha
      · split at ha
        · simp only [Option.some.injEq, Prod.mk.injEq] at ha; rw [← ha.2]; exact Nat.le_refl _
        · cases ha
      · cases ha
    · cases ha
  · cases ha
omit [Sym] in
theorem aappend_next {t : TypeId} {x y v : Value} {h h' : Hp} (ha : aappend T t x y h = some (v, h')) : h.next ≤ h'.next := by
  unfold aappend at ha
  split at ha
  · split at ha
    · split at ha
      · split at ha
        · generalize hz : Nat.beq _ 0 = z at ha
          cases z with
          | true =>
            simp only [cond_true] at ha
            split at ha
            · simp only [Option.some.injEq, Prod.mk.injEq] at ha; rw [← ha.2]; exact Nat.le_refl _
            · simp only [Option.some.injEq, Prod.mk.injEq] at ha; rw [← ha.2]; exact Nat.le_refl _
            · cases ha
          | false =>
            simp only [cond_false] at ha
            split at ha
            · split at ha
              · split at ha
                · generalize hz2 : (_ && _) = z2 at ha
                  cases z2 with
                  | false => cases ha
                  | true => simp only [cond_true, Option.some.injEq, Prod.mk.injEq] at ha; rw [← ha.2]; simp [Hp.new]
                · split at ha
                  · generalize hz2 : (_ && _) = z2 at ha
                    cases z2 with
                    | false => cases ha
                    | true => simp only [cond_true, Option.some.injEq, Prod.mk.injEq] at ha; rw [← ha.2]; simp [Hp.new, Hp.kill]
                  · cases ha
                · cases ha
              · cases ha
            · cases ha
        · cases ha
      · cases ha
    · cases ha
  · cases ha
omit [Sym] in
theorem abuiltin_next {b : Builtin} {ts : List TypeId} {vs : List Value} {v : Value} {h h' : Hp} (ha : abuiltin T b ts vs h = some (v, h')) : h.next ≤ h'.next := by
  unfold abuiltin at ha
  split at ha
  · split at ha
    · split at ha
      · simp only [Option.some.injEq, Prod.mk.injEq] at ha; rw [← ha.2]; exact Nat.le_refl _
      · cases ha
    · cases ha
  · split at ha
    · generalize hz : Nat.beq _ _ = z at ha
      cases z with
      | false => cases ha
      | true => exact aappend_next ha
    · cases ha
  · generalize hz : vs.all gnd = z at ha
    cases z with
    | false => cases ha
    | true =>
      simp only [cond_true] at ha
      split at ha
      · simp only [Option.some.injEq, Prod.mk.injEq] at ha; rw [← ha.2]; exact Nat.le_refl _
      · cases ha
  · generalize hz : vs.all gnd = z at ha
    cases z with
    | false => cases ha
    | true =>
      simp only [cond_true] at ha
      split at ha
      · simp only [Option.some.injEq, Prod.mk.injEq] at ha; rw [← ha.2]; exact Nat.le_refl _
      · cases ha
  · cases ha
omit [Sym] in
theorem un_next {o : Option Value} {v : Value} {h h' : Hp} (ha : un o h = some (v, h')) : h.next ≤ h'.next := by
  rw [(un_spec ha).2]; exact Nat.le_refl _
omit [Sym] in
theorem astore_next {t : TypeId} {h h' : Hp} {p v : Value} (ha : astore T t h p v = some h') : h.next ≤ h'.next := by
  unfold astore at ha
  split at ha
  · split at ha
    · generalize hz : (_ && _) = z at ha
      cases z with
      | false => cases ha
      | true =>
        simp only [cond_true] at ha
        split at ha
        · simp only [Option.some.injEq] at ha; rw [← ha]; exact Nat.le_refl _
        · cases ha
    · cases ha
  · cases ha

omit [Sym] in
theorem aop_next {o : Op} {τ : Env} {h h' : Hp} {v : Value} (ha : aop T o τ h = some (v, h')) : h.next ≤ h'.next := by
  unfold aop at ha
  split at ha
  all_goals (first
    | exact un_next ha
    | contradiction
    | (simp only [Option.some.injEq, Prod.mk.injEq] at ha; rw [← ha.2]; simp [Hp.new]; done)
    | skip)
  all_goals split at ha
  all_goals (first
    | exact un_next ha
    | contradiction
    | exact abuildSlice_next ha
    | exact amakeSlice_next ha
    | exact aconv_next ha
    | skip)
  · generalize hz : List.all _ gnd = z at ha
    cases z with
    | false => cases ha
    | true => simp only [cond_true, Option.some.injEq, Prod.mk.injEq] at ha; rw [← ha.2]; simp [Hp.new]
  · simp only [Option.some.injEq] at ha
    have hh := congrArg Prod.snd ha
    simp only [abox] at hh
    rw [← hh]; simp [Hp.new]
  · split at ha
    · rename_i hst
      simp only [Option.some.injEq, Prod.mk.injEq] at ha; rw [← ha.2]; exact astore_next hst
    · cases ha
  · simp only [Option.some.injEq, Prod.mk.injEq] at ha; rw [← ha.2]; exact Nat.le_refl _
  · simp only [Option.some.injEq, Prod.mk.injEq] at ha; rw [← ha.2]; exact Nat.le_refl _
  · generalize hz : gnd _ = z at ha
    cases z with
    | false => cases ha
    | true => exact un_next ha
  · simp only [Option.some.injEq, Prod.mk.injEq] at ha; rw [← ha.2]; exact Nat.le_refl _
  · split at ha <;> first | exact un_next ha | contradiction
  · split at ha
    · exact abuiltin_next ha
    · cases ha

theorem aopD_next {call : CallG} (hc : CallOkD P call) {o : Op} {τ : Env} {h h' : Hp} {v : Value} (ha : aopD T call o τ h = some (v, h')) : h.next ≤ h'.next := by
  unfold aopD at ha
  split at ha
  · split at ha
    · split at ha
      · exact (hc _ _ _ _ _ ha).1
      · cases ha
    · split at ha
      · exact abuiltin_next ha
      · cases ha
    · cases ha
  · exact aop_next ha

theorem aopC_next (hc : CallOk P call) {o : Op} {τ : Env} {h h' : Hp} {v : Value} (ha : aopC T call o τ h = some (v, h')) : h.next ≤ h'.next := by
  unfold aopC at ha
  split at ha
  · rename_i r hr
    simp only [Option.some.injEq] at ha
    subst ha
    exact aopD_next hc.1 hr
  · obtain ⟨_, rfl, _⟩ := ahint_spec ha
    exact Nat.le_refl _

theorem arun_next (hc : CallOk P call) {ops : Array Oper} : ∀ (l : List Oper) (st st' : St), arun T call ops l st = some st' → st.h.next ≤ st'.h.next
  | [], st, st', h => by simp only [arun, Option.some.injEq] at h; subst h; exact Nat.le_refl _
  | o :: r, st, st', h => by
    simp only [arun] at h
    split at h
    · split at h
      · rename_i v h1 ho
        exact Nat.le_trans (aopC_next hc ho) (arun_next hc r _ _ h)
      · cases h
    · exact arun_next hc r ⟨putD st.τ o.dst undef, st.h⟩ st' h
    · cases h

/-- What behind a piece is known. -/
structure Rel (ν0 : Nat → Slot) (h0 : Hp) (w0 : World) (n : Nat) (st : St) (ν : Nat → Slot) (a : Act) (w : World) : Prop where
  env : EnvR ν st.τ a
  sat : Sat ν st.h w
  post : Post ν0 h0 w0 ν st.h w
  room : a.tmps.size = n
  defers : a.defers = []

omit [Sym] in
theorem put_size {a : Act} {d : Option Tmp} {v : Value} : (a.put d v).tmps.size = a.tmps.size := by cases d <;> simp [Act.put]
omit [Sym] in
theorem put_defers {a : Act} {d : Option Tmp} {v : Value} : (a.put d v).defers = a.defers := by cases d <;> rfl

theorem arun_wp (hT : TTok T P) (hc : CallOk P call) {ops : Array Oper} {Q : Exit → Act → World → Prop} {ν0 : Nat → Slot} {h0 : Hp} {w0 : World} (s0 : Sat ν0 h0 w0) (g0 : Gl ν0 h0 w0) (n : Nat) :
    ∀ (l : List Oper) (k : Nat) (st st' : St) (ν : Nat → Slot) (a : Act) (w : World), arun T call ops l st = some st' → ops.toList.drop k = l → roomFor n l = true →
      Rel ν0 h0 w0 n st ν a w → Fresh ν st.h st'.h → (∀ ν' a' w', Rel ν0 h0 w0 n st' ν' a' w' → Q .normal a' w') → wpOps P ops Q (List.range' k l.length) a w
  | [], k, st, st', ν, a, w, hr, _, _, rel, _, hQ => by
    simp only [arun, Option.some.injEq] at hr
    subst hr
    exact hQ ν a w rel
  | o :: r, k, st, st', ν, a, w, hr, hl, hroom, rel, hf, hQ => by
    have hok : ops[k]? = some o := by
      have := congrArg (·[0]?) hl
      simpa using this
    have hlr : ops.toList.drop (k + 1) = r := by
      have := congrArg List.tail hl
      simpa [List.tail_drop] using this
    simp only [roomFor, List.all_cons, Bool.and_eq_true] at hroom
    have hd : ∀ t, o.dst = some t → t < a.tmps.size := by
      intro t ht
      have := hroom.1
      rw [ht] at this
      rw [rel.room]
      simpa [Nat.blt_eq] using this
    have hrr : roomFor n r = true := hroom.2
    rw [show (o :: r).length = r.length + 1 from rfl, List.range'_succ]
    simp only [wpOps, hok]
    simp only [arun] at hr
    split at hr
    · rename_i hw
      split at hr
      · rename_i v h1 ho
        rw [awant_sound rel.env hw]
        simp only [if_true]
        left
        have hn1 := aopC_next hc ho
        have hn2 := arun_next hc r _ _ hr
        refine op_wp (aopC_sound hT hc rel.sat (g0.post rel.post) rel.env ho (hf.first hn2)) fun v' w' ν' hv hs hp => ?_
        have renv : EnvR ν' (putD st.τ o.dst v) (a.put o.dst v') := (rel.env.mono hp.Le).put hv hd
        exact arun_wp hT hc s0 g0 n r (k + 1) _ st' ν' _ w' hr hlr hrr ⟨renv, hs, rel.post.trans s0 hp, put_size.trans rel.room, put_defers.trans rel.defers⟩ (hf.second hp) hQ
      · cases hr
    · rename_i hw
      rw [awant_sound rel.env hw]
      simp only [Bool.false_eq_true, if_false]
      have renv : EnvR ν (putD st.τ o.dst undef) (a.put o.dst undef) := rel.env.put (.grd _ rfl) hd
      exact arun_wp hT hc s0 g0 n r (k + 1) ⟨putD st.τ o.dst undef, st.h⟩ st' ν _ w hr hlr hrr ⟨renv, rel.sat, rel.post, put_size.trans rel.room, put_defers.trans rel.defers⟩ hf hQ
    · cases hr
end
end Go.Ev
