/- Functions that are told, not run. -/
import Derived.Test.YtbnojnnmjdmmoaaGreatDoorEvX
import Derived.Laws.LoneSync
import Derived.Lib.Bytealg
namespace Go.Ev
variable [Sym]

section
variable {P : Program} {ν : Nat → Slot} {h : Hp} {w : World}

theorem LR.one {x : Value} {l : List Value} (hl : LR ν [x] l) : ∃ x', l = [x'] ∧ VR ν x x' := by
  obtain ⟨h1, h2⟩ := hl
  cases l with
  | nil => simp at h1
  | cons a l =>
    cases l with
    | nil => exact ⟨a, rfl, h2 0 x a rfl rfl⟩
    | cons b l => simp at h1
theorem LR.two {x y : Value} {l : List Value} (hl : LR ν [x, y] l) : ∃ x' y', l = [x', y'] ∧ VR ν x x' ∧ VR ν y y' := by
  obtain ⟨h1, h2⟩ := hl
  cases l with
  | nil => simp at h1
  | cons a l =>
    cases l with
    | nil => simp at h1
    | cons b l =>
      cases l with
      | nil => exact ⟨a, b, rfl, h2 0 x a rfl rfl, h2 1 y b rfl rfl⟩
      | cons c l => simp at h1
theorem LR.three {x y z : Value} {l : List Value} (hl : LR ν [x, y, z] l) : ∃ x' y' z', l = [x', y', z'] ∧ VR ν x x' ∧ VR ν y y' ∧ VR ν z z' := by
  obtain ⟨h1, h2⟩ := hl
  cases l with
  | nil => simp at h1
  | cons a l =>
    cases l with
    | nil => simp at h1
    | cons b l =>
      cases l with
      | nil => simp at h1
      | cons c l =>
        cases l with
        | nil => exact ⟨a, b, c, rfl, h2 0 x a rfl rfl, h2 1 y b rfl rfl, h2 2 z c rfl rfl⟩
        | cons d l => simp at h1
theorem LR.gnds {l l' : List Value} (hl : LR ν l l') (hg : l.all gnd = true) : l' = l := by
  apply List.ext_getElem?
  intro i
  rcases Nat.lt_or_ge i l.length with hi | hi
  · have hi' : i < l'.length := hl.1 ▸ hi
    have q1 := List.getElem?_eq_getElem hi
    have q2 := List.getElem?_eq_getElem hi'
    have := hl.2 i _ _ q1 q2
    rw [q1, q2, this.grd_inv (List.all_eq_true.1 hg _ (List.getElem_mem hi))]
  · rw [List.getElem?_eq_none hi, List.getElem?_eq_none (by rw [← hl.1]; exact hi)]

/-- A world with more blocks. -/
structure Ext (w w' : World) : Prop where
  old : ∀ b, b < w.heap.size → w'.heap[b]? = w.heap[b]?
  size : w.heap.size ≤ w'.heap.size
  os : w'.os = w.os
  tape : w'.tape = w.tape
  output : w'.output = w.output
omit [Sym] in
theorem Ext.refl (w : World) : Ext w w := ⟨fun _ _ => rfl, Nat.le_refl _, rfl, rfl, rfl⟩
theorem Ext.sat {w' : World} (x : Ext w w') (s : Sat ν h w) : Sat ν h w' := by
  refine ⟨fun n cs E ro b z hg hn => ?_, s.inj, fun n b z hn => Nat.lt_of_lt_of_le (s.bound n b z hn) x.size, s.nodead, s.wf⟩
  obtain ⟨c, fr, g1, g2⟩ := s.cells n cs E ro b z hg hn
  exact ⟨c, fr, by rw [x.old b (s.bound n b z hn)]; exact g1, g2⟩
omit [Sym] in
theorem Ext.post {w' : World} (x : Ext w w') : Post ν h w ν h w' :=
  ⟨fun _ _ => .inl rfl, fun _ _ e => e, fun b hb _ => x.old b hb, fun _ _ s hh e => .inl ⟨_, s, hh, e⟩, fun _ _ _ => rfl, x.size, Nat.le_refl _, x.os, x.tape, x.output⟩

/-- What the variables of packages hold. -/
def Gw (w : World) : Prop := ∀ g d, Sym.gl g = some d → ∃ T fr, w.heap[g]? = some (.cells d T fr)
theorem Gl.wd (g : Gl ν h w) : Gw w := fun k d hk => (g k d hk).1

/-- A function that makes nothing that stays. -/
def pureR (r : List Value → Option Value) : ASpec := fun vs h => un (r vs) h
theorem pureR_ok {f : Nat} {fn : Func} {c : Code} (hf : P.funcs[f]? = some fn) (hname : (fn.name == "runtime.NumGoroutine") = false) (hb : fn.body = some c) {r : List Value → Option Value}
    (hC : ∀ vs v, r vs = some v → ∀ (ν : Nat → Slot) (w : World) (vs' : Array Value), Gw w → LR ν vs vs'.toList → Calls P f vs' w fun e w' => ∃ v', e = .returned v' ∧ VR ν v v' ∧ Ext w w') :
    ASpecOk P f (pureR r) := by
  intro vs h v h' hx
  obtain ⟨h1, rfl⟩ := un_spec hx
  refine ⟨Nat.le_refl _, fun ν w vs' s g hl hfr => .inr ⟨f, vs', run_callFunc_body hf hname hb vs' w, ?_⟩⟩
  refine (hC vs v h1 ν w vs' (Gl.wd g) hl).mono fun e w' he => ?_
  obtain ⟨v', rfl, hv, hx⟩ := he
  exact ⟨v', ν, rfl, hv, hx.sat s, hx.post⟩

/-- A function without a body that only tells. -/
theorem pureX_ok {f : Nat} {r : List Value → Option Value}
    (hC : ∀ vs v, r vs = some v → ∀ (ν : Nat → Slot) (w : World) (vs' : Array Value), LR ν vs vs'.toList → ∃ v', (callFunc f vs').run P w = .ok (.value v') w ∧ VR ν v v') :
    ASpecOk P f (pureR r) := by
  intro vs h v h' hx
  obtain ⟨h1, rfl⟩ := un_spec hx
  refine ⟨Nat.le_refl _, fun ν w vs' s g hl hfr => .inl ?_⟩
  obtain ⟨v', a, b⟩ := hC vs v h1 ν w vs' hl
  exact SimO.val s a b

/-! ### Closed calls, each in a heap of its own -/
def pureC (call : CallG) (f : Nat) (vs : List Value) : Option Value :=
  bif vs.all gnd then
    match call f vs ⟨.emp, 0⟩ with
    | some (v, _) => bif gnd v then some v else none
    | none => none
  else none

theorem closed_calls {call : CallG} (hc : CallOkD P call) {f : Nat} {vs : List Value} {v : Value} (h1 : pureC call f vs = some v) (s : Sat ν h w) (g : Gl ν h w) {vs' : Array Value} (hl : LR ν vs vs'.toList) :
    NSim P ν h w (callFunc f vs') v h := by
  unfold pureC at h1
  cases hg : vs.all gnd with
  | false => rw [hg] at h1; cases h1
  | true =>
    rw [hg] at h1
    simp only [cond_true] at h1
    split at h1
    · rename_i v0 h0 hv0
      cases hg2 : gnd v0 with
      | false => rw [hg2] at h1; cases h1
      | true =>
        rw [hg2] at h1
        simp only [cond_true, Option.some.injEq] at h1
        subst h1
        have hnone : ∀ n, ¬ (⟨.emp, 0⟩ : Hp).has n := fun n hn => by simp [Hp.has, Hp.get, Tr.get_emp] at hn
        have s0 : Sat (fun _ => .un) (⟨.emp, 0⟩ : Hp) w := ⟨fun n cs E ro b z hg hn => by simp [Hp.get, Tr.get_emp] at hg, fun n m b z z' hn => by simp at hn, fun n b z hn => by simp at hn, fun n hn => (hnone n hn).elim, fun n _ => by simp [Hp.get, Tr.get_emp]⟩
        have g0 : Gl (fun _ => .un) (⟨.emp, 0⟩ : Hp) w := fun k d hk => ⟨(g k d hk).1, fun n z hn => (hnone n hn).elim⟩
        have e := hl.gnds hg
        have hl0 : LR (fun _ => .un) vs vs'.toList := by
          rw [e]
          exact ⟨rfl, fun i a b q1 q2 => by
            rw [q1] at q2
            simp only [Option.some.injEq] at q2
            subst q2
            exact .grd _ (List.all_eq_true.1 hg _ (List.mem_of_getElem? q1))⟩
        have ext : ∀ {ν' h' w'}, Post (fun _ => .un) (⟨.emp, 0⟩ : Hp) w ν' h' w' → Ext w w' := fun p => ⟨fun b hb => p.frame b hb (fun n z hn => (hnone n hn).elim), p.size, p.os, p.tape, p.output⟩
        rcases (hc _ _ _ _ _ hv0).2 _ w vs' s0 g0 hl0 (fun n _ _ => rfl) with ⟨nx, v', w', ν', hr, hnx, hv, _, p⟩ | ⟨f', args, hr, hcalls⟩
        · exact .inl ⟨nx, v', w', ν, hr, hnx, by rw [hv.grd_inv hg2]; exact .grd _ hg2, (ext p).sat s, (ext p).post⟩
        · refine .inr ⟨f', args, hr, hcalls.mono fun e w' he => ?_⟩
          obtain ⟨v', ν', rfl, hv, _, p⟩ := he
          exact ⟨v', ν, rfl, by rw [hv.grd_inv hg2]; exact .grd _ hg2, (ext p).sat s, (ext p).post⟩
    · cases h1

theorem closed_ok {call : CallG} (hc : CallOkD P call) (f : Nat) : ASpecOk P f (pureR (pureC call f)) := by
  intro vs h v h' hx
  obtain ⟨h1, rfl⟩ := un_spec hx
  exact ⟨Nat.le_refl _, fun ν w vs' s g hl _ => closed_calls hc h1 s g hl⟩

/-! ### internal/bytealg -/
def idxB : List UInt8 → UInt8 → Nat → Int
  | [], _, _ => -1
  | b :: l, c, k => bif b.toNat.beq c.toNat then k else idxB l c (k + 1)
omit [Sym] in
theorem idxB_eq (c : UInt8) : ∀ (l : List UInt8) (k : Nat), idxB l c k = if Lib.indexByte l c = -1 then -1 else Lib.indexByte l c + k
  | [], k => by simp [idxB, Lib.indexByte]
  | b :: l, k => by
    simp only [idxB, Lib.indexByte]
    have e : (b.toNat.beq c.toNat) = (b == c) := by
      rw [Bool.eq_iff_iff]; simp [← UInt8.toNat_inj]
    rw [e, idxB_eq c l (k + 1)]
    have := Lib.indexByte_ge l c
    by_cases hb : (b == c) = true
    · simp [hb]
    · have hb : (b == c) = false := by simpa using hb
      simp only [hb, cond_false, Bool.false_eq_true, if_false]
      by_cases h1 : Lib.indexByte l c = -1
      · simp [h1]
      · have h2 : (Lib.indexByte l c == -1) = false := by simpa using h1
        simp only [h1, if_false, h2, Bool.false_eq_true]
        rw [if_neg (by omega)]
        omega
omit [Sym] in
theorem idxB0 (l : List UInt8) (c : UInt8) : idxB l c 0 = Lib.indexByte l c := by
  rw [idxB_eq]; split <;> omega

def cntB : List UInt8 → UInt8 → Nat → Nat
  | [], _, n => n
  | b :: l, c, n => cntB l c (bif b.toNat.beq c.toNat then n + 1 else n)
omit [Sym] in
theorem cntB_eq (c : UInt8) : ∀ (l : List UInt8) (n : Nat), cntB l c n = n + Lib.countByte l c
  | [], n => by simp [cntB, Lib.countByte]
  | b :: l, n => by
    simp only [cntB, Lib.countByte]
    have e : (b.toNat.beq c.toNat) = (b == c) := by
      rw [Bool.eq_iff_iff]; simp [← UInt8.toNat_inj]
    rw [e, cntB_eq c l, List.count_cons]
    unfold Lib.countByte
    cases (b == c) <;> simp <;> omega

def rIndex : List Value → Option Value
  | [.string s, .int .u8 c] => some (.int .i64 (idxB s.data.toList c.toNat.toUInt8 0))
  | _ => none
def rCount : List Value → Option Value
  | [.string s, .int .u8 c] => some (.int .i64 (cntB s.data.toList c.toNat.toUInt8 0))
  | _ => none

omit [Sym] in
theorem toArr {vs' : Array Value} {l : List Value} (e : vs'.toList = l) : vs' = l.toArray := by rw [← e]

theorem rIndex_ok {f : Nat} {fn : Func} (hf : P.funcs[f]? = some fn) (hname : (fn.name == "runtime.NumGoroutine") = false) (hb : fn.body.isNone = true) (hn : Extern.findNext fn = none)
    (he : Extern.find fn = some Extern.BytealgIndexByte.indexByte) : ASpecOk P f (pureR rIndex) := by
  refine pureX_ok fun vs v hr ν w vs' hl => ?_
  unfold rIndex at hr
  split at hr
  · rename_i s c
    simp only [Option.some.injEq] at hr
    subst hr
    obtain ⟨x', y', e, hx, hy⟩ := hl.two
    rw [hx.grd_inv rfl, hy.grd_inv rfl] at e
    have := toArr e
    subst this
    refine ⟨_, ?_, .grd _ rfl⟩
    rw [run_callFunc_extern hf hname hb hn he, Lib.run_indexByteString, idxB0]
    rfl
  · cases hr

theorem rCount_ok {f : Nat} {fn : Func} (hf : P.funcs[f]? = some fn) (hname : (fn.name == "runtime.NumGoroutine") = false) (hb : fn.body.isNone = true) (hn : Extern.findNext fn = none)
    (he : Extern.find fn = some Extern.BytealgCount.count) : ASpecOk P f (pureR rCount) := by
  refine pureX_ok fun vs v hr ν w vs' hl => ?_
  unfold rCount at hr
  split at hr
  · rename_i s c
    simp only [Option.some.injEq] at hr
    subst hr
    obtain ⟨x', y', e, hx, hy⟩ := hl.two
    rw [hx.grd_inv rfl, hy.grd_inv rfl] at e
    have := toArr e
    subst this
    refine ⟨_, ?_, .grd _ rfl⟩
    rw [run_callFunc_extern hf hname hb hn he, Lib.run_countString, cntB_eq, Nat.zero_add]
    rfl
  · cases hr

/-! ### sync/atomic -/
def sLoad (k : IntKind) : ASpec := fun vs h => match vs with
  | [.pointer (some ⟨n, off, none⟩)] => match ldAt h n off with
    | some (.int k' x) => bif decide (k' = k) then some (.int k x, h) else none
    | _ => none
  | _ => none
def sStore : ASpec := fun vs h => match vs with
  | [.pointer (some ⟨n, off, none⟩), .int k x] => match h.get n with
    | some (.cells cs E false) => match setAt off [.int k x] cs with
      | some cs2 => some (.tuple #[], h.put n (.cells cs2 E false))
      | none => none
    | _ => none
  | _ => none

theorem sLoad_ok {k : IntKind} {f : Nat} {fn : Func} (hf : P.funcs[f]? = some fn) (hname : (fn.name == "runtime.NumGoroutine") = false) (hb : fn.body.isNone = true) (hn : Extern.findNext fn = none)
    (he : Extern.find fn = some (Extern.Atomic.loadT (.int k))) : ASpecOk P f (sLoad k) := by
  intro vs h v h' hx
  unfold sLoad at hx
  split at hx
  · rename_i n off
    split at hx
    · rename_i k' x hld
      cases hk : decide (k' = k) with
      | false => rw [hk] at hx; cases hx
      | true =>
        rw [hk] at hx
        have hk' : k' = k := of_decide_eq_true hk
        subst hk'
        simp only [cond_true, Option.some.injEq, Prod.mk.injEq] at hx
        obtain ⟨rfl, rfl⟩ := hx
        refine ⟨Nat.le_refl _, fun ν w vs' s g hl _ => .inl ?_⟩
        obtain ⟨x', e, hv⟩ := hl.one
        obtain ⟨b, u, rfl, hc, hu⟩ := ldAt_sound s hld hv
        have := toArr e
        subst this
        rw [hu.grd_inv rfl] at hc
        exact SimO.val s (run_call_load hf hname hb hn k' he hc) (.grd _ rfl)
    · cases hx
  · cases hx

theorem sStore_ok {f : Nat} {fn : Func} (hf : P.funcs[f]? = some fn) (hname : (fn.name == "runtime.NumGoroutine") = false) (hb : fn.body.isNone = true) (hn : Extern.findNext fn = none)
    (he : Extern.find fn = some Extern.Atomic.storeT) : ASpecOk P f sStore := by
  intro vs h v h' hx
  unfold sStore at hx
  split at hx
  · rename_i n off k x
    split at hx
    · rename_i cs E hg
      split at hx
      · rename_i cs2 hset
        simp only [Option.some.injEq, Prod.mk.injEq] at hx
        obtain ⟨rfl, rfl⟩ := hx
        refine ⟨Nat.le_refl _, fun ν w vs' s g hl _ => .inl ?_⟩
        obtain ⟨x', y', e, hv, hy⟩ := hl.two
        obtain ⟨b, c, fr, hnu, rfl, hb2, hfr, hlen, hcc⟩ := s.ptr hv hg
        have hfr := hfr rfl
        subst hfr
        rw [hy.grd_inv rfl] at e
        have := toArr e
        subst this
        obtain ⟨S, Q⟩ := put_sound s hg hnu hb2 hset (vs' := [.int k x]) (LR.cons (.grd _ rfl) LR.nil)
        have hoff : off < c.size := by
          have := (setAt_spec _ _ _ _ hset).2.1
          simp at this
          omega
        have hrow : (c.toList.take off ++ [Value.int k x] ++ c.toList.drop (off + [Value.int k x].length)).toArray = c.setIfInBounds off (.int k x) := by
          apply Array.ext'
          rw [Array.toList_setIfInBounds]
          simp only [List.length_cons, List.length_nil, Nat.zero_add]
          rw [List.set_eq_take_append_cons_drop, if_pos (by simpa using hoff)]
          simp
        rw [hrow, ← setCell_eq_setRow w b off c E (0, 0) _ hb2] at S Q
        refine ⟨_, _, _, ν, run_call_store hf hname hb hn he (u := c[off]) (by rw [cell_of_row w b off c E (0, 0) hb2]; exact Array.getElem?_eq_getElem hoff) (frozen_of_row w b off c E hb2), .inl rfl, .grd _ rfl, S, Q⟩
      · cases hx
    · cases hx
  · cases hx
end
end Go.Ev
