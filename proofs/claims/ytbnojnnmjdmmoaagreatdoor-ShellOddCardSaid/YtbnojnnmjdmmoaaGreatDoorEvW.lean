/- Functions by their numbers. -/
import Derived.Test.YtbnojnnmjdmmoaaGreatDoorEvV
namespace Go.Ev
variable [Sym]

omit [Sym] in
theorem run_callFunc_body {P : Program} {f : FuncId} {fn : Func} {c : Code} (hf : P.funcs[f]? = some fn) (hname : (fn.name == "runtime.NumGoroutine") = false) (hb : fn.body = some c) (args : Array Value) (w : World) :
    (callFunc f args).run P w = .ok (.enter f args) w := by
  have h1 : fn.name ≠ "runtime.NumGoroutine" := by simpa using hname
  simp [callFunc, hf, h1, hb]

abbrev ASpec := List Value → Hp → Option (Value × Hp)

def askS (sp : Nat → Option ASpec) (f : Nat) (vs : List Value) (h : Hp) : Option (Value × Hp) := match sp f with | some g => g vs h | none => none

def callN (T : TT) (F : Nat → Option Func) (sp : Nat → Option ASpec) (hint : Hint) (lf : Nat) : Nat → CallF
  | 0 => ⟨fun _ _ _ => none, hint⟩
  | d + 1 => ⟨fun f vs h => match askS sp f vs h with
    | some r => some r
    | none => match F f with
      | some fn => match fn.body with
        | some c => callBody T (rgOf T (callN T F sp hint lf d)) lf fn.ntmps c fn.results.toList vs h
        | none => none
      | none => none, hint⟩

def ASpecOk (P : Program) (f : Nat) (g : ASpec) : Prop :=
  ∀ (vs : List Value) (h : Hp) (v : Value) (h' : Hp), g vs h = some (v, h') → h.next ≤ h'.next ∧
    ∀ (ν : Nat → Slot) (w : World) (vs' : Array Value), Sat ν h w → Gl ν h w → LR ν vs vs'.toList → Fresh ν h h' → NSim P ν h w (callFunc f vs') v h'

variable {P : Program} {T : TT} {F : Nat → Option Func} {sp : Nat → Option ASpec} {hint : Hint} {lf : Nat}

theorem callN_ok (hm : P.follows .mixedOrders = true) (hT : TTok T P) (hF : ∀ f fn, F f = some fn → P.funcs[f]? = some fn ∧ (fn.name == "runtime.NumGoroutine") = false)
    (hS : ∀ f g, sp f = some g → ASpecOk P f g) (hH : HintOk P hint) : ∀ d, CallOk P (callN T F sp hint lf d)
  | 0 => ⟨fun f vs h v h' hc => by simp [callN] at hc, by simpa [callN] using hH⟩
  | d + 1 => by
    refine ⟨fun f vs h v h' hc => ?_, by simpa [callN] using hH⟩
    have ih := callN_ok hm hT hF hS hH d
    simp only [callN] at hc
    split at hc
    · rename_i r hr
      simp only [Option.some.injEq] at hc
      subst hc
      unfold askS at hr
      split at hr
      · rename_i g hg
        exact hS f g hg vs h v h' hr
      · cases hr
    · split at hc
      · rename_i fn hfn
        split at hc
        · rename_i c hb
          have hrg := rgOf_ok hm hT ih
          obtain ⟨hfs, hname⟩ := hF f fn hfn
          refine ⟨callBody_next hrg hc, fun ν w vs' s g hl hfr => .inr ⟨f, vs', run_callFunc_body hfs hname hb vs' w, ?_⟩⟩
          exact callBody_sound hT hrg hfs hb rfl rfl hc s g hl hfr
        · cases hc
      · cases hc

/-- What a run that ends well tells of the call. -/
theorem callN_calls (hm : P.follows .mixedOrders = true) (hT : TTok T P) (hF : ∀ f fn, F f = some fn → P.funcs[f]? = some fn ∧ (fn.name == "runtime.NumGoroutine") = false)
    (hS : ∀ f g, sp f = some g → ASpecOk P f g) (hH : HintOk P hint) {d f : Nat} {fn : Func} {c : Code} (hn : sp f = none) (hf : F f = some fn) (hb : fn.body = some c) {vs : List Value} {h h' : Hp} {v : Value}
    (hc : (callN T F sp hint lf (d + 1)).fn f vs h = some (v, h')) {ν : Nat → Slot} {w : World} {vs' : Array Value} (s : Sat ν h w) (g : Gl ν h w) (hl : LR ν vs vs'.toList) (hfr : Fresh ν h h') :
    Calls P f vs' w fun e w' => ∃ v' ν', e = .returned v' ∧ VR ν' v v' ∧ Sat ν' h' w' ∧ Post ν h w ν' h' w' := by
  simp only [callN, askS, hn, hf, hb] at hc
  exact callBody_sound hT (rgOf_ok hm hT (callN_ok hm hT hF hS hH d)) (hF f fn hf).1 hb rfl rfl hc s g hl hfr
end Go.Ev
