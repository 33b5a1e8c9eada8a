/- Functions of tokens that are told by runs on the values meant. -/
import Derived.Test.YtbnojnnmjdmmoaaGreatDoorEvYC
namespace Go.Ev
variable [Sym]

theorem callQ_ok {P : Program} {sp : Nat → Option ASpec} {hint : Hint} {lf d : Nat} (hm : P.follows .mixedOrders = true) (hF : ∀ (f : Nat) (fn : Func), P.funcs[f]? = some fn → (fn.name == "runtime.NumGoroutine") = false)
    (hS : ∀ f g, sp f = some g → ASpecOk P f g) (hH : HintOk P hint) : CallOkD P (callQ P sp hint lf d) := by
  rw [callQ_eq]
  exact (callN_ok hm (TTof_ok P) (fun f fn h => ⟨h, hF f fn h⟩) hS hH d).1

/-- A closed call, in a heap of its own. -/
def runC (call : CallG) (f : Nat) (vs : List Value) : Option Value :=
  match call f vs ⟨.emp, 0⟩ with
  | some (v, _) => some v
  | none => none

theorem runC_calls {P : Program} {ν : Nat → Slot} {h : Hp} {w : World} {call : CallG} (hc : CallOkD P call) {f : Nat} {vs : List Value} {v : Value} (h1 : runC call f vs = some v) (hg : vs.all gnd = true) (hg2 : clo v = true)
    (_s : Sat ν h w) (g : Gl ν h w) {vs' : Array Value} (hl : LR ν vs vs'.toList) :
    (∃ nx w', (callFunc f vs').run P w = .ok nx w' ∧ (nx = .value v ∨ (nx = .skip ∧ v = undef)) ∧ Ext w w') ∨
    (∃ f' args, (callFunc f vs').run P w = .ok (.enter f' args) w ∧ Calls P f' args w fun e w' => e = .returned v ∧ Ext w w') := by
  unfold runC at h1
  split at h1
  · rename_i v0 h0 hv0
    simp only [Option.some.injEq] at h1
    subst h1
    have hnone : ∀ n, ¬ (⟨.emp, 0⟩ : Hp).has n := fun n hn => by simp [Hp.has, Hp.get, Tr.get_emp] at hn
    have s0 : Sat (fun _ => .un) (⟨.emp, 0⟩ : Hp) w := ⟨fun n cs E ro b z hg hn => by simp [Hp.get, Tr.get_emp] at hg, fun n m b z z' hn => by simp at hn, fun n b z hn => by simp at hn, fun n hn => (hnone n hn).elim, fun n _ => by simp [Hp.get, Tr.get_emp]⟩
    have g0 : Gl (fun _ => .un) (⟨.emp, 0⟩ : Hp) w := fun k d hk => ⟨(g k d hk).1, fun n z hn => (hnone n hn).elim⟩
    have e := hl.gnds hg
    have hl0 : LR (fun _ => .un) vs vs'.toList := by
      rw [e]
      exact ⟨rfl, fun i a b q1 q2 => by
        rw [q1] at q2
        simp only [Option.some.injEq] at q2
        subst q2
        exact .grd _ (List.all_eq_true.1 hg _ (List.mem_of_getElem? q1))⟩
    have ext : ∀ {ν' h' w'}, Post (fun _ => .un) (⟨.emp, 0⟩ : Hp) w ν' h' w' → Ext w w' := fun p => ⟨fun b hb => p.frame b hb (fun n z hn => (hnone n hn).elim), p.size, p.os, p.tape, p.output⟩
    rcases (hc _ _ _ _ _ hv0).2 _ w vs' s0 g0 hl0 (fun n _ _ => rfl) with ⟨nx, v', w', ν', hr, hnx, hv, _, p⟩ | ⟨f', args, hr, hcalls⟩
    · rw [hv.clo_inv hg2] at hnx
      exact .inl ⟨nx, w', hr, hnx, ext p⟩
    · refine .inr ⟨f', args, hr, hcalls.mono fun e w' he => ?_⟩
      obtain ⟨v', ν', rfl, hv, _, p⟩ := he
      exact ⟨by rw [hv.clo_inv hg2], ext p⟩
  · cases h1

/-- A table of what a function tells of tokens is right, if it tells so of the values meant. -/
theorem table_ok {P : Program} {call : CallG} (hc : CallOkD P call) (f : Nat) {r : List Value → Option Value}
    (hr : ∀ vs v, r vs = some v → vs.all isPlain = true ∧ (vs.map realV).all gnd = true ∧ ∃ u, runC call f (vs.map realV) = some u ∧ clo u = true ∧ ∀ ν, VR ν v u) : ASpecOk P f (pureR r) := by
  intro vs h v h' hx
  obtain ⟨h1, rfl⟩ := un_spec hx
  refine ⟨Nat.le_refl _, fun ν w vs' s g hl _ => ?_⟩
  obtain ⟨a1, a2, u, a3, a4, a5⟩ := hr vs v h1
  have e := hl.real a1
  have hl2 : LR ν (vs.map realV) vs'.toList := by
    rw [e]
    exact ⟨rfl, fun i a b q1 q2 => by
      rw [q1] at q2
      simp only [Option.some.injEq] at q2
      subst q2
      exact .grd _ (List.all_eq_true.1 a2 _ (List.mem_of_getElem? q1))⟩
  rcases runC_calls hc a3 a2 a4 s g hl2 with ⟨nx, w', q1, q2, q3⟩ | ⟨f', args, q1, q2⟩
  · exact .inl ⟨nx, u, w', ν, q1, q2, a5 ν, q3.sat s, q3.post⟩
  · refine .inr ⟨f', args, q1, q2.mono fun x w' hx => ?_⟩
    obtain ⟨rfl, hx⟩ := hx
    exact ⟨u, ν, rfl, a5 ν, hx.sat s, hx.post⟩
end Go.Ev
