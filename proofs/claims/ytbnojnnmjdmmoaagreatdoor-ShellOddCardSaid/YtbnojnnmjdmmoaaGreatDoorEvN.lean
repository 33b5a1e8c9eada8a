/- Code, and functions. -/
import Derived.Test.YtbnojnnmjdmmoaaGreatDoorEvM
import Derived.LoopN
namespace Go.Ev
variable [Sym]

inductive Ex where
  | normal
  | exit (id : Nat)
  | ret
def Ex.toExit : Ex → Exit
  | .normal => .normal
  | .exit id => .exit id
  | .ret => .ret

abbrev RgF := Array Oper → Bool → St → Option St

def loopN (f : St → Option (Ex × St)) : Nat → St → Option (Ex × St)
  | 0, _ => none
  | n + 1, st => match f st with
    | some (.normal, st') => loopN f n st'
    | r => r

def exec (rg : RgF) (lf n : Nat) : Code → St → Option (Ex × St)
  | .skip, st => some (.normal, st)
  | .label _, st => some (.normal, st)
  | .region _ ops draw, st => bif roomFor n ops.toList then (match rg ops draw st with | some st' => some (.normal, st') | none => none) else none
  | .seq a b, st => match exec rg lf n a st with
    | some (.normal, st') => exec rg lf n b st'
    | r => r
  | .cond c x y, st => match aev st.τ c with
    | some (.bool true) => exec rg lf n x st
    | some (.bool false) => exec rg lf n y st
    | _ => none
  | .block id c, st => match exec rg lf n c st with
    | some (.exit id', st') => bif Nat.beq id' id then some (.normal, st') else some (.exit id', st')
    | r => r
  | .loop c, st => loopN (fun s => exec rg lf n c s) lf st
  | .exit id, st => some (.exit id, st)
  | .ret, st => some (.ret, st)
  | _, _ => none

def RgOk (P : Program) (rg : RgF) : Prop :=
  ∀ (ops : Array Oper) (draw : Bool) (st st' : St), rg ops draw st = some st' → st.h.next ≤ st'.h.next ∧
    ∀ (n id : Nat) (ν0 : Nat → Slot) (h0 : Hp) (w0 : World) (ν : Nat → Slot) (a : Act) (w : World) (Q : Exit → Act → World → Prop), roomFor n ops.toList = true → Sat ν0 h0 w0 → Gl ν0 h0 w0 →
      Rel ν0 h0 w0 n st ν a w → Fresh ν st.h st'.h → (∀ ν' a' w', Rel ν0 h0 w0 n st' ν' a' w' → (ν' = ν' → Q .normal a' w')) → (Code.region id ops draw).wp P Q a w

section
variable {P : Program} {rg : RgF} (hrg : RgOk P rg) (lf n : Nat)
include hrg

theorem exec_next : ∀ (c : Code) (st : St) (ex : Ex) (st' : St), exec rg lf n c st = some (ex, st') → st.h.next ≤ st'.h.next := by
  intro c
  induction c with
  | skip => intro st ex st' h; simp only [exec, Option.some.injEq, Prod.mk.injEq] at h; rw [← h.2]; exact Nat.le_refl _
  | label => intro st ex st' h; simp only [exec, Option.some.injEq, Prod.mk.injEq] at h; rw [← h.2]; exact Nat.le_refl _
  | region id ops draw =>
    intro st ex st' h
    simp only [exec] at h
    generalize roomFor n ops.toList = z at h
    cases z with
    | false => cases h
    | true =>
      simp only [cond_true] at h
      split at h
      · rename_i hr
        simp only [Option.some.injEq, Prod.mk.injEq] at h; rw [← h.2]; exact (hrg _ _ _ _ hr).1
      · cases h
  | seq a b iha ihb =>
    intro st ex st' h
    simp only [exec] at h
    split at h
    · rename_i st1 h1
      exact Nat.le_trans (iha _ _ _ h1) (ihb _ _ _ h)
    · exact iha _ _ _ h
  | cond c x y ihx ihy =>
    intro st ex st' h
    simp only [exec] at h
    split at h
    · exact ihx _ _ _ h
    · exact ihy _ _ _ h
    · cases h
  | block id c ih =>
    intro st ex st' h
    simp only [exec] at h
    split at h
    · rename_i id' st1 h1
      generalize Nat.beq id' id = z at h
      cases z <;> simp only [cond_true, cond_false, Option.some.injEq, Prod.mk.injEq] at h <;> rw [← h.2] <;> exact ih _ _ _ h1
    · exact ih _ _ _ h
  | loop c ih =>
    intro st ex st' h
    simp only [exec] at h
    have key : ∀ k st, loopN (fun s => exec rg lf n c s) k st = some (ex, st') → st.h.next ≤ st'.h.next := by
      intro k
      induction k with
      | zero => intro st h; cases h
      | succ k ihk =>
        intro st h
        simp only [loopN] at h
        split at h
        · rename_i st1 h1
          exact Nat.le_trans (ih _ _ _ h1) (ihk _ h)
        · exact ih _ _ _ h
    exact key _ _ h
  | exit id => intro st ex st' h; simp only [exec, Option.some.injEq, Prod.mk.injEq] at h; rw [← h.2]; exact Nat.le_refl _
  | ret => intro st ex st' h; simp only [exec, Option.some.injEq, Prod.mk.injEq] at h; rw [← h.2]; exact Nat.le_refl _
  | rangeFunc => intro st ex st' h; simp [exec] at h
  | scope => intro st ex st' h; simp [exec] at h
  | goto => intro st ex st' h; simp [exec] at h
  | refuse => intro st ex st' h; simp [exec] at h

theorem exec_wp {ν0 : Nat → Slot} {h0 : Hp} {w0 : World} (s0 : Sat ν0 h0 w0) (g0 : Gl ν0 h0 w0) : ∀ (c : Code) (st : St) (ex : Ex) (st' : St) (ν : Nat → Slot) (a : Act) (w : World) (Q : Exit → Act → World → Prop),
    exec rg lf n c st = some (ex, st') → Rel ν0 h0 w0 n st ν a w → Fresh ν0 h0 st'.h → (∀ ν' a' w', Rel ν0 h0 w0 n st' ν' a' w' → Q ex.toExit a' w') → c.wp P Q a w := by
  intro c
  induction c with
  | skip =>
    intro st ex st' ν a w Q h rel _ hQ
    simp only [exec, Option.some.injEq, Prod.mk.injEq] at h
    obtain ⟨rfl, rfl⟩ := h
    exact wp_skip (hQ _ _ _ rel)
  | label =>
    intro st ex st' ν a w Q h rel _ hQ
    simp only [exec, Option.some.injEq, Prod.mk.injEq] at h
    obtain ⟨rfl, rfl⟩ := h
    exact wp_label (hQ _ _ _ rel)
  | region id ops draw =>
    intro st ex st' ν a w Q h rel hf hQ
    simp only [exec] at h
    cases hz : roomFor n ops.toList with
    | false => rw [hz] at h; cases h
    | true =>
      rw [hz] at h
      simp only [cond_true] at h
      split at h
      · rename_i st1 hr
        simp only [Option.some.injEq, Prod.mk.injEq] at h
        obtain ⟨rfl, rfl⟩ := h
        exact (hrg _ _ _ _ hr).2 n id ν0 h0 w0 ν a w Q hz s0 g0 rel (hf.second rel.post) (fun ν' a' w' r _ => hQ ν' a' w' r)
      · cases h
  | seq x y ihx ihy =>
    intro st ex st' ν a w Q h rel hf hQ
    simp only [exec] at h
    refine wp_seq ?_
    split at h
    · rename_i st1 h1
      refine ihx _ _ _ ν a w _ h1 rel (hf.first (exec_next hrg lf n _ _ _ _ h)) fun ν' a' w' r => ?_
      exact ihy _ _ _ ν' a' w' Q h r hf hQ
    · rename_i hne
      refine ihx _ _ _ ν a w _ h rel hf fun ν' a' w' r => ?_
      have := hQ ν' a' w' r
      cases ex with
      | normal => exact (hne _ h).elim
      | exit id => exact this
      | ret => exact this
  | cond c x y ihx ihy =>
    intro st ex st' ν a w Q h rel hf hQ
    simp only [exec] at h
    split at h
    · rename_i hc
      have := (aev_sound rel.env hc).grd_inv rfl
      exact wp_cond_true this (ihx _ _ _ ν a w Q h rel hf hQ)
    · rename_i hc
      have := (aev_sound rel.env hc).grd_inv rfl
      exact wp_cond_false this (ihy _ _ _ ν a w Q h rel hf hQ)
    · cases h
  | block id c ih =>
    intro st ex st' ν a w Q h rel hf hQ
    simp only [exec] at h
    refine wp_block ?_
    split at h
    · rename_i id' st1 h1
      cases hid : Nat.beq id' id with
      | true =>
        rw [hid] at h
        simp only [cond_true, Option.some.injEq, Prod.mk.injEq] at h
        obtain ⟨rfl, rfl⟩ := h
        have hid := Nat.eq_of_beq_eq_true hid
        refine ih _ _ _ ν a w _ h1 rel hf fun ν' a' w' r => ?_
        simp only [Ex.toExit, Exit.inBlock, hid, if_true]
        exact hQ ν' a' w' r
      | false =>
        rw [hid] at h
        simp only [cond_false, Option.some.injEq, Prod.mk.injEq] at h
        obtain ⟨rfl, rfl⟩ := h
        have hid : id' ≠ id := fun e => by rw [e, Nat.beq_refl] at hid; cases hid
        refine ih _ _ _ ν a w _ h1 rel hf fun ν' a' w' r => ?_
        simp only [Ex.toExit, Exit.inBlock, if_neg hid]
        exact hQ ν' a' w' r
    · rename_i hne
      refine ih _ _ _ ν a w _ h rel hf fun ν' a' w' r => ?_
      have := hQ ν' a' w' r
      cases ex with
      | normal => exact this
      | exit id' => exact (hne _ _ h).elim
      | ret => exact this
  | loop c ih =>
    intro st ex st' ν a w Q h rel hf hQ
    simp only [exec] at h
    have key : ∀ k st ν a w, loopN (fun s => exec rg lf n c s) k st = some (ex, st') → Rel ν0 h0 w0 n st ν a w → Code.rounds P c Q k a w := by
      intro k
      induction k with
      | zero => intro st ν a w h; cases h
      | succ k ihk =>
        intro st ν a w h rel
        simp only [loopN] at h
        rw [rounds_succ]
        split at h
        · rename_i st1 h1
          have hle : st1.h.next ≤ st'.h.next := by
            have key2 : ∀ k st, loopN (fun s => exec rg lf n c s) k st = some (ex, st') → st.h.next ≤ st'.h.next := by
              intro k
              induction k with
              | zero => intro st h; cases h
              | succ k ihk2 =>
                intro st h
                simp only [loopN] at h
                split at h
                · rename_i st1 h1
                  exact Nat.le_trans (exec_next hrg lf n _ _ _ _ h1) (ihk2 _ h)
                · exact exec_next hrg lf n _ _ _ _ h
            exact key2 _ _ h
          exact ih _ _ _ ν a w _ h1 rel (hf.first hle) fun ν' a' w' r => ihk _ ν' a' w' h r
        · rename_i hne
          refine ih _ _ _ ν a w _ h rel hf fun ν' a' w' r => ?_
          have := hQ ν' a' w' r
          cases ex with
          | normal => exact (hne _ h).elim
          | exit id' => exact this
          | ret => exact this
    exact wp_loop_rounds lf (key lf st ν a w h rel)
  | exit id =>
    intro st ex st' ν a w Q h rel _ hQ
    simp only [exec, Option.some.injEq, Prod.mk.injEq] at h
    obtain ⟨rfl, rfl⟩ := h
    exact wp_exit (hQ _ _ _ rel)
  | ret =>
    intro st ex st' ν a w Q h rel _ hQ
    simp only [exec, Option.some.injEq, Prod.mk.injEq] at h
    obtain ⟨rfl, rfl⟩ := h
    exact wp_ret (hQ _ _ _ rel)
  | rangeFunc => intro st ex st' ν a w Q h; simp [exec] at h
  | scope => intro st ex st' ν a w Q h; simp [exec] at h
  | goto => intro st ex st' ν a w Q h; simp [exec] at h
  | refuse => intro st ex st' ν a w Q h; simp [exec] at h
end

/-! ### Functions -/
def envOf : List Value → Nat → Env → Env
  | [], _, τ => τ
  | v :: r, i, τ => envOf r (i + 1) (τ.set i (some v))

omit [Sym] in
theorem envOf_get : ∀ (l : List Value) (i : Nat) (τ : Env) (t : Nat), (envOf l i τ).get t = if i ≤ t ∧ t < i + l.length then l[t - i]? else τ.get t
  | [], i, τ, t => by simp only [envOf, List.length_nil, Nat.add_zero]; rw [if_neg (by omega)]
  | v :: r, i, τ, t => by
    simp only [envOf]
    rw [envOf_get r (i + 1), Tr.get_set]
    simp only [List.length_cons]
    by_cases h : t = i
    · subst h
      rw [if_neg (by omega), if_pos rfl, if_pos (by omega)]
      simp
    · by_cases h2 : i + 1 ≤ t ∧ t < i + 1 + r.length
      · rw [if_pos h2, if_pos (by omega)]
        rw [show t - i = (t - (i + 1)) + 1 by omega]
        simp
      · rw [if_neg h2, if_neg h, if_neg (by omega)]

def ares (T : TT) (st : St) : List ResultVar → Option (List Value)
  | [] => some []
  | .tmp t :: r => match st.τ.get t, ares T st r with
    | some v, some l => some (v :: l)
    | _, _ => none
  | .cell p t :: r => match st.τ.get p with
    | some x => match aload T t st.h x, ares T st r with
      | some v, some l => some (v :: l)
      | _, _ => none
    | none => none

def one (l : List Value) : Value := match l with | [v] => v | l => .tuple l.toArray

def callBody (T : TT) (rg : RgF) (lf n : Nat) (c : Code) (rs : List ResultVar) (vs : List Value) (h : Hp) : Option (Value × Hp) :=
  bif Nat.ble vs.length n then
    match exec rg lf n c ⟨envOf vs 0 .emp, h⟩ with
    | some (.normal, st) => match ares T st rs with | some l => some (one l, st.h) | none => none
    | some (.ret, st) => match ares T st rs with | some l => some (one l, st.h) | none => none
    | _ => none
  else none

section
variable {P : Program} {T : TT} {ν : Nat → Slot} {w : World}

def rget (tmps : Array Value) : ResultVar → Sem Value
  | .tmp t => pure (tmps.getD t undef)
  | .cell p t => do loadVar t (← asAddr (tmps.getD p undef))
omit [Sym] in
theorem results_rget (fn : Func) (tmps : Array Value) : results fn tmps = (do let vs ← fn.results.mapM (rget tmps); pure (if h : vs.size = 1 then vs[0] else .tuple vs)) := by
  unfold results
  congr 1

theorem ares_sound (hT : TTok T P) {st : St} {a : Act} (e : EnvR ν st.τ a) (s : Sat ν st.h w) : ∀ (rs : List ResultVar) (l : List Value), ares T st rs = some l →
    ∃ l', (rs.mapM (rget a.tmps)).run P w = .ok l' w ∧ LR ν l l'
  | [], l, h => by simp only [ares, Option.some.injEq] at h; subst h; exact ⟨[], rfl, LR.nil⟩
  | .tmp t :: r, l, h => by
    simp only [ares] at h
    split at h
    · rename_i v l1 hv hl
      simp only [Option.some.injEq] at h
      subst h
      obtain ⟨v', h1, h2⟩ := e t v hv
      obtain ⟨l', h3, h4⟩ := ares_sound hT e s r l1 hl
      refine ⟨v' :: l', ?_, LR.cons h2 h4⟩
      have hg : (rget a.tmps (.tmp t)).run P w = .ok v' w := by simp [rget, h1]
      simp only [List.mapM_cons, Sem.run_bind, hg, Result.andThen_ok, h3, Sem.run_pure]
    · cases h
  | .cell p t :: r, l, h => by
    simp only [ares] at h
    split at h
    · rename_i x hx
      split at h
      · rename_i v l1 hv hl
        simp only [Option.some.injEq] at h
        subst h
        obtain ⟨x', h1, h2⟩ := e p x hx
        obtain ⟨ad, u, e1, e2, e3⟩ := loadVar_sound hT s hv h2
        obtain ⟨l', h3, h4⟩ := ares_sound hT e s r l1 hl
        refine ⟨u :: l', ?_, LR.cons e3 h4⟩
        have hg : (rget a.tmps (.cell p t)).run P w = .ok u w := by simp [rget, h1, e1, asAddr, e2]
        simp only [List.mapM_cons, Sem.run_bind, hg, Result.andThen_ok, h3, Sem.run_pure]
      · cases h
    · cases h

theorem one_sound {l l' : List Value} (h : LR ν l l') : VR ν (one l) (if h : l'.toArray.size = 1 then l'.toArray[0] else .tuple l'.toArray) := by
  match l, l', h with
  | [], [], _ => exact .grd _ rfl
  | [v], [v'], h => exact h.2 0 v v' rfl rfl
  | [], _ :: _, h => have := h.1; simp at this
  | [_], [], h => have := h.1; simp at this
  | [_], _ :: _ :: _, h => have := h.1; simp at this
  | _ :: _ :: _, [], h => have := h.1; simp at this
  | _ :: _ :: _, [_], h => have := h.1; simp at this
  | v :: u :: l, v' :: u' :: l', h =>
    simp only [one]
    rw [dif_neg (by simp)]
    exact .tup _ _ (by simpa using h.1) (fun i x y a b => h.2 i x y (by simpa using a) (by simpa using b))

theorem callBody_next {rg : RgF} (hrg : RgOk P rg) {lf n : Nat} {c : Code} {rs : List ResultVar} {vs : List Value} {h h' : Hp} {v : Value} (hc : callBody T rg lf n c rs vs h = some (v, h')) : h.next ≤ h'.next := by
  unfold callBody at hc
  cases hz : Nat.ble vs.length n with
  | false => rw [hz] at hc; cases hc
  | true =>
    rw [hz] at hc
    simp only [cond_true] at hc
    split at hc
    · rename_i st he
      split at hc
      · simp only [Option.some.injEq, Prod.mk.injEq] at hc
        rw [← hc.2]; exact exec_next hrg lf n _ _ _ _ he
      · cases hc
    · rename_i st he
      split at hc
      · simp only [Option.some.injEq, Prod.mk.injEq] at hc
        rw [← hc.2]; exact exec_next hrg lf n _ _ _ _ he
      · cases hc
    · cases hc

theorem callBody_sound (hT : TTok T P) {rg : RgF} (hrg : RgOk P rg) {f : Nat} {fn : Func} {lf n : Nat} {c : Code} {rs : List ResultVar} (hf : P.funcs[f]? = some fn) (hb : fn.body = some c) (hn : fn.ntmps = n) (hr : fn.results.toList = rs)
    {vs : List Value} {vs' : Array Value} {h h' : Hp} {v : Value} (hc : callBody T rg lf n c rs vs h = some (v, h')) (s : Sat ν h w) (g : Gl ν h w) (hl : LR ν vs vs'.toList) (hfr : Fresh ν h h') :
    Calls P f vs' w fun e w' => ∃ v' ν', e = .returned v' ∧ VR ν' v v' ∧ Sat ν' h' w' ∧ Post ν h w ν' h' w' := by
  unfold callBody at hc
  cases hz : Nat.ble vs.length n with
  | false => rw [hz] at hc; cases hc
  | true =>
    rw [hz] at hc
    simp only [cond_true] at hc
    have hlen : vs'.size ≤ n := by have := hl.1; have := Nat.le_of_ble_eq_true hz; simp at *; omega
    refine calls_of_wp hf hb ?_
    have rel0 : Rel ν h w n ⟨envOf vs 0 .emp, h⟩ ν { tmps := vs' ++ Array.replicate (fn.ntmps - vs'.size) undef, defers := [] } w := by
      refine ⟨fun t u ht => ?_, s, Post.refl ν h w, by simp [hn]; omega, rfl⟩
      rw [envOf_get] at ht
      split at ht
      · rename_i hi
        simp only [Nat.sub_zero] at ht
        obtain ⟨u', h1, h2⟩ := hl.getElem? ht
        refine ⟨u', ?_, h2⟩
        have hlt := (List.getElem?_eq_some_iff.1 h1).1
        rw [Array.getElem?_append_left (by simpa using hlt)]
        simpa using h1
      · simp [Tr.get_emp] at ht
    have fin : ∀ (st : St), (match ares T st rs with | some l => some (one l, st.h) | none => none) = some (v, h') → ∀ ν' a' w', Rel ν h w n st ν' a' w' →
        a'.defers = [] ∧ ∃ u, (results fn a'.tmps).run P w' = .ok u w' ∧ ∃ v' ν', Ending.returned u = .returned v' ∧ VR ν' v v' ∧ Sat ν' h' w' ∧ Post ν h w ν' h' w' := by
      intro st hst ν' a' w' r
      split at hst
      · rename_i l hares
        simp only [Option.some.injEq, Prod.mk.injEq] at hst
        obtain ⟨rfl, rfl⟩ := hst
        obtain ⟨l', h1, h2⟩ := ares_sound hT r.env r.sat rs l hares
        refine ⟨r.defers, _, ?_, _, ν', rfl, one_sound h2, r.sat, r.post⟩
        rw [results_rget, Array.mapM_eq_mapM_toList, hr]
        simp only [Sem.run_bind, Sem.run_map, h1, Result.andThen_ok, Sem.run_pure]
      · cases hst
    split at hc
    · rename_i st he
      have hh : st.h = h' := by
        split at hc
        · simp only [Option.some.injEq, Prod.mk.injEq] at hc; exact hc.2
        · cases hc
      refine exec_wp hrg lf n s g c _ _ st ν _ w _ he rel0 (hh ▸ hfr) fun ν' a' w' r => ?_
      exact fin st hc ν' a' w' r
    · rename_i st he
      have hh : st.h = h' := by
        split at hc
        · simp only [Option.some.injEq, Prod.mk.injEq] at hc; exact hc.2
        · cases hc
      refine exec_wp hrg lf n s g c _ _ st ν _ w _ he rel0 (hh ▸ hfr) fun ν' a' w' r => ?_
      exact fin st hc ν' a' w' r
    · cases hc
end
end Go.Ev
