/- What may be told of operations on what is not known: by what they come to on the values meant. -/
import Derived.Test.YtbnojnnmjdmmoaaGreatDoorEvYB
namespace Go.Ev
variable [Sym]

/-- What is meant by a value with tokens. -/
def realV : Value → Value
  | .iface n .nilFunc => Sym.val n
  | v => v
def isPlain : Value → Bool
  | .iface _ .nilFunc => true
  | v => gnd v
theorem VR.real {ν : Nat → Slot} {v v' : Value} (h : VR ν v v') (hp : isPlain v = true) : v' = realV v := by
  cases h with
  | sym n => rfl
  | grd _ hg => cases v <;> first | rfl | (simp [gnd] at hg)
  | tup cs cs' hs h =>
    have := (VR.tup cs cs' hs h).grd_inv (by simpa [isPlain] using hp)
    rw [this]; rfl
  | _ => simp [isPlain, gnd] at hp
theorem LR.real {ν : Nat → Slot} {l l' : List Value} (h : LR ν l l') (hp : l.all isPlain = true) : l' = l.map realV := by
  apply List.ext_getElem?
  intro i
  rw [List.getElem?_map]
  rcases Nat.lt_or_ge i l.length with hi | hi
  · have hi' : i < l'.length := h.1 ▸ hi
    have q1 := List.getElem?_eq_getElem hi
    have q2 := List.getElem?_eq_getElem hi'
    rw [q1, q2, (h.2 i _ _ q1 q2).real (List.all_eq_true.1 hp _ (List.getElem_mem hi))]
    rfl
  · rw [List.getElem?_eq_none hi, List.getElem?_eq_none (by rw [← h.1]; exact hi)]
    rfl
theorem tok_real (n : Nat) : realV (tok n) = Sym.val n := rfl

def opReal (T : TT) (o : Op) (vs : List Value) : Option Value :=
  match o with
  | .binOp op t _ _ _ => match vs with
    | [x, y] => bif plainPair x y then okG (pr (binOp op t x y)) else none
    | _ => none
  | .convert s d _ => match vs with
    | [.int _ n] => match T s, T d with
      | some _, some i => match i.desc with | .int k' => some (.int k' (k'.wrap n)) | _ => none
      | _, _ => none
    | _ => none
  | .slice t _ none (some _) none => match vs with
    | [.string s, h] => aslice T t (.string s) none (some h)
    | _ => none
  | .call c => match c.callee with
    | .builtin .len => match c.argTypes.toList, vs with
      | [t], [.string s] => alen T t (.string s)
      | _, _ => none
    | .builtin .min => bif vs.all gnd then okG (pr (Builtin.min_ #[] 0 vs.toArray)) else none
    | _ => none
  | _ => none

theorem opReal_sound {P : Program} {T : TT} (hT : TTok T P) {o : Op} {vs : List Value} {v : Value} (h : opReal T o vs = some v) {x : Oper} {a : Act} {w : World} (hx : x.op = o)
    (hv : o.operands.toList.map a.eval = vs) : (execOp a.eval x).run P w = .ok (.value v) w := by
  let ν : Nat → Slot := fun _ => .un
  unfold opReal at h
  split at h
  · rename_i op t ox oy u
    split at h
    · rename_i x1 y1
      simp [Op.operands] at hv
      obtain ⟨rfl, rfl⟩ := hv
      cases hp : plainPair (a.eval ox) (a.eval oy) with
      | false => rw [hp] at h; cases h
      | true =>
        have g := plainPair_gnd hp
        have h' : abin T op t (a.eval ox) (a.eval oy) = some v := by unfold abin; rw [hp] at h ⊢; exact h
        have := (abin_sound (ν := ν) (ox := ox) (oy := oy) hT h' (.grd _ g.1) (.grd _ g.2) w).1
        unfold execOp
        rw [hx]
        simp only [Sem.run_bind] at this ⊢
        rw [this]
        rfl
    · cases h
  · rename_i s d ox
    split at h
    · rename_i k n
      simp [Op.operands] at hv
      split at h
      · rename_i i0 i hs hd
        split at h
        · rename_i k' hk
          simp only [Option.some.injEq] at h
          subst h
          have h1 := hT.und _ _ hs
          have h2 : P.underlying d = some (.int k') := by rw [hT.und _ _ hd, hk]
          unfold execOp
          rw [hx]
          simp only [hv]
          unfold convert
          simp [run_underlying h1, run_underlying h2, Conv.intToInt]
        · cases h
      · cases h
    · cases h
  · rename_i t ox oh
    split at h
    · rename_i s hh
      simp [Op.operands] at hv
      obtain ⟨hv1, hv2⟩ := hv
      have hg : gnd hh = true := by
        unfold aslice at h
        split at h
        · split at h
          · split at h
            · rename_i _ hb
              unfold bnd at hb
              split at hb
              · rename_i e; cases e
              · rename_i e; simp at e; rw [e]; rfl
              · cases hb
            · cases h
          · cases h
        all_goals (first | cases h | contradiction)
      have hvg : gnd v = true := by
        unfold aslice at h
        split at h
        · split at h
          · split at h
            · split at h
              · generalize hz : (_ && _) = z at h
                cases z with
                | false => cases h
                | true => simp only [cond_true, Option.some.injEq] at h; rw [← h]; rfl
              · cases h
            · cases h
          · cases h
        all_goals (first | cases h | contradiction)
      obtain ⟨i, hi, hd⟩ := aslice_desc h
      obtain ⟨v', h1, h2⟩ := aslice_sound (ν := ν) (P := P) (w := w) (x' := .string s) (lo' := none) (hi' := some hh) hT h (.grd _ rfl) (fun v e => by cases e) (fun _ => rfl)
        (fun v e => ⟨hh, rfl, by simp only [Option.some.injEq] at e; rw [← e]; exact .grd _ hg⟩) (fun e => by cases e)
      rw [h2.grd_inv hvg] at h1
      unfold execOp
      rw [hx]
      simp only [hv1, hv2, Option.map_none, Option.map_some]
      have hu := hT.und _ _ hi
      rw [Sem.run_bind]
      have : (Instr.sliceAt t (.string s) none (some hh) none).run P w = (Instr.slice t (.string s) none (some hh) none).run P w := by
        rcases hd with e | ⟨e, he⟩
        · rw [e] at hu; simp [Instr.sliceAt, run_underlying hu]
        · rw [he] at hu; simp [Instr.sliceAt, run_underlying hu]
      rw [this, h1]
      rfl
    · cases h
  · rename_i c
    split at h
    · rename_i hcal
      split at h
      · rename_i t s hts
        simp [Op.operands, Call.operands, hcal] at hv
        have e1 : c.argTypes = #[t] := by apply Array.ext'; simpa using hts
        have e2 : c.args.map a.eval = #[.string s] := by apply Array.ext'; simpa using hv
        have hr := alen_sound (ν := ν) (P := P) (w := w) (ty := x.type) hT h (.grd _ rfl)
        unfold execOp
        rw [hx]
        show (do let d ← resolve a.eval c x.type; invoke d.target d.args : Sem Next).run P w = _
        simp only [resolve, hcal, e1, e2]
        simp [invoke, builtin, hr.1]
      · cases h
    · rename_i hcal
      cases hg : vs.all gnd with
      | false => rw [hg] at h; cases h
      | true =>
        rw [hg] at h
        simp only [cond_true] at h
        obtain ⟨o1, o2⟩ := okG_spec h
        simp [Op.operands, Call.operands, hcal] at hv
        have e2 : c.args.map a.eval = vs.toArray := by apply Array.ext'; simpa using hv
        unfold execOp
        rw [hx]
        show (do let d ← resolve a.eval c x.type; invoke d.target d.args : Sem Next).run P w = _
        simp only [resolve, hcal, e2]
        have := pr_run o1 P w
        simp [invoke, builtin]
        rw [show Builtin.min_ c.argTypes x.type vs.toArray = Builtin.min_ #[] 0 vs.toArray from rfl, this]
        rfl
    · cases h
  · cases h

theorem hint_real {P : Program} {T : TT} (hT : TTok T P) {hint : Hint} (h : ∀ o vs v, hint o vs = some v → vs.all isPlain = true ∧ isPlain v = true ∧ opReal T o (vs.map realV) = some (realV v)) : HintOk P hint := by
  intro o vs v hh ν x a w hx hl
  obtain ⟨h1, h2, h3⟩ := h o vs v hh
  refine ⟨realV v, opReal_sound hT h3 hx (hl.real h1), ?_⟩
  unfold isPlain at h2
  split at h2
  · exact .sym _
  · rename_i hne
    have : realV v = v := by unfold realV; split <;> first | rfl | (rename_i e; exact (hne _ rfl).elim)
    rw [this]
    exact .grd _ h2
end Go.Ev
