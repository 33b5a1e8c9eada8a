/- Regions that draw their order: what the operations lean on. -/
import Derived.Test.YtbnojnnmjdmmoaaGreatDoorEvN
namespace Go.Ev
variable [Sym]

/-! ### What an operation looks at -/
def opTmps (o : Op) : List Tmp := o.operands.toList.filterMap fun | .tmp t => some t | _ => none
def looks (ops : Array Oper) (o : Oper) : List Tmp :=
  (match o.guard with
   | some (g, _) => ((ops[g]?).bind (·.dst)).toList
   | none => []) ++ opTmps o.op

/-- Just some slots. -/
def cut (τ : Env) : List Tmp → Env
  | [] => .emp
  | t :: r => (cut τ r).set t (τ.get t)
omit [Sym] in
theorem cut_get (τ : Env) : ∀ (l : List Tmp) (t : Tmp), (cut τ l).get t = if t ∈ l then τ.get t else none
  | [], t => by simp [cut, Tr.get_emp]
  | u :: r, t => by
    simp only [cut, Tr.get_set, List.mem_cons, cut_get τ r]
    by_cases h : t = u
    · subst h; simp
    · simp [h]

def Agree (τ τ' : Env) (l : List Tmp) : Prop := ∀ t ∈ l, τ.get t = τ'.get t
omit [Sym] in
theorem cut_agree (τ : Env) (l : List Tmp) : Agree τ (cut τ l) l := fun t ht => by rw [cut_get, if_pos ht]
omit [Sym] in
theorem Agree.sub {τ τ' : Env} {l l' : List Tmp} (h : Agree τ τ' l) (hs : ∀ t ∈ l', t ∈ l) : Agree τ τ' l' := fun t ht => h t (hs t ht)

def tmpsOf (l : List Operand) : List Tmp := l.filterMap fun | .tmp t => some t | _ => none
omit [Sym] in
theorem aev_agree {τ τ' : Env} {x : Operand} (h : Agree τ τ' (tmpsOf [x])) : aev τ x = aev τ' x := by
  cases x with
  | tmp t => exact h t (by simp [tmpsOf])
  | _ => rfl
omit [Sym] in
theorem tmpsOf_mem {l : List Operand} {x : Operand} (hx : x ∈ l) : ∀ t ∈ tmpsOf [x], t ∈ tmpsOf l := by
  intro t ht
  simp only [tmpsOf, List.mem_filterMap] at ht ⊢
  obtain ⟨y, hy, e⟩ := ht
  simp only [List.mem_singleton] at hy
  subst hy
  exact ⟨y, hx, e⟩
omit [Sym] in
theorem aevs_agree {τ τ' : Env} : ∀ {l : List Operand}, Agree τ τ' (tmpsOf l) → aevs τ l = aevs τ' l
  | [], _ => rfl
  | x :: r, h => by
    simp only [aevs]
    rw [aev_agree (x := x) (h.sub (tmpsOf_mem (by simp))), aevs_agree (l := r) (h.sub (fun t ht => by
      simp only [tmpsOf, List.mem_filterMap] at ht ⊢
      obtain ⟨y, hy, e⟩ := ht
      exact ⟨y, by simp [hy], e⟩))]
omit [Sym] in
theorem aparts_agree {τ τ' : Env} : ∀ {l : List (Nat × Operand)}, Agree τ τ' (tmpsOf (l.map (·.2))) → aparts τ l = aparts τ' l
  | [], _ => rfl
  | (i, x) :: r, h => by
    simp only [aparts]
    rw [aev_agree (x := x) (h.sub (tmpsOf_mem (by simp))), aparts_agree (l := r) (h.sub (fun t ht => by
      simp only [tmpsOf, List.mem_filterMap] at ht ⊢
      obtain ⟨y, hy, e⟩ := ht
      exact ⟨y, by simp at hy ⊢; exact .inr hy, e⟩))]
omit [Sym] in
theorem oev_agree {τ τ' : Env} {x : Option Operand} (h : Agree τ τ' (tmpsOf x.toList)) : oev τ x = oev τ' x := by
  cases x with
  | none => rfl
  | some x => simp only [oev]; rw [aev_agree (x := x) (h.sub (tmpsOf_mem (by simp)))]

omit [Sym] in
theorem opTmps_eq (o : Op) : opTmps o = tmpsOf o.operands.toList := rfl

omit [Sym] in
theorem aopD_agree {T : TT} {call : CallG} {τ τ' : Env} {o : Op} (h : Agree τ τ' (opTmps o)) (hp : Hp) : aopD T call o τ hp = aopD T call o τ' hp := by
  rw [opTmps_eq] at h
  have e1 : ∀ x ∈ o.operands.toList, aev τ x = aev τ' x := fun x hx => aev_agree (h.sub (tmpsOf_mem hx))
  have el : ∀ l : List Operand, (∀ x ∈ l, x ∈ o.operands.toList) → aevs τ l = aevs τ' l := fun l hl => aevs_agree (h.sub (fun t ht => by
    simp only [tmpsOf, List.mem_filterMap] at ht ⊢
    obtain ⟨y, hy, e⟩ := ht
    exact ⟨y, hl y hy, e⟩))
  have eo : ∀ x : Option Operand, (∀ y ∈ x.toList, y ∈ o.operands.toList) → oev τ x = oev τ' x := fun x hx => oev_agree (h.sub (fun t ht => by
    simp only [tmpsOf, List.mem_filterMap] at ht ⊢
    obtain ⟨y, hy, e⟩ := ht
    exact ⟨y, hx y hy, e⟩))
  cases o with
  | call c =>
    simp only [aopD]
    cases hc : c.callee with
    | value x =>
      simp only
      rw [e1 x (by simp [Op.operands, Call.operands, hc]), el c.args.toList (fun y hy => by simp [Op.operands, Call.operands, hc] at hy ⊢; exact .inr hy)]
    | builtin b =>
      simp only
      rw [el c.args.toList (fun y hy => by simp [Op.operands, Call.operands, hc] at hy ⊢; exact hy)]
    | invoke => rfl
  | build t ps =>
    simp only [aopD, aop]
    rw [aparts_agree (l := ps.toList) (h.sub (fun t ht => by simpa [Op.operands] using ht))]
  | buildSlice t n ps =>
    simp only [aopD, aop]
    rw [aparts_agree (l := ps.toList) (h.sub (fun t ht => by simpa [Op.operands] using ht))]
  | makeFunc fn a b =>
    simp only [aopD, aop]
    rw [el a.toList (fun y hy => by simp [Op.operands] at hy ⊢; exact .inl hy), el b.toList (fun y hy => by simp [Op.operands] at hy ⊢; exact .inr hy)]
  | slice t x lo hi mx =>
    cases mx with
    | none =>
      simp only [aopD, aop]
      rw [e1 x (by simp [Op.operands]), eo lo (fun y hy => by simp [Op.operands] at hy ⊢; exact .inr (.inl hy)), eo hi (fun y hy => by simp [Op.operands] at hy ⊢; exact .inr (.inr hy))]
    | some m => rfl
  | pick c x y =>
    simp only [aopD, aop]
    rw [e1 c (by simp [Op.operands]), e1 x (by simp [Op.operands]), e1 y (by simp [Op.operands])]
  | move x => simp only [aopD, aop]; rw [e1 x (by simp [Op.operands])]
  | assign x => simp only [aopD, aop]; rw [e1 x (by simp [Op.operands])]
  | box t x => simp only [aopD, aop]; rw [e1 x (by simp [Op.operands])]
  | load t x => simp only [aopD, aop]; rw [e1 x (by simp [Op.operands])]
  | store t x y => simp only [aopD, aop]; rw [e1 x (by simp [Op.operands]), e1 y (by simp [Op.operands])]
  | nilCheck x => simp only [aopD, aop]; rw [e1 x (by simp [Op.operands])]
  | binOp op t x y u => simp only [aopD, aop]; rw [e1 x (by simp [Op.operands]), e1 y (by simp [Op.operands])]
  | unOp op t x => simp only [aopD, aop]; rw [e1 x (by simp [Op.operands])]
  | convert s d x => simp only [aopD, aop]; rw [e1 x (by simp [Op.operands])]
  | makeSlice t x y => simp only [aopD, aop]; rw [e1 x (by simp [Op.operands]), e1 y (by simp [Op.operands])]
  | fieldAddr t x f => simp only [aopD, aop]; rw [e1 x (by simp [Op.operands])]
  | field t x f => simp only [aopD, aop]; rw [e1 x (by simp [Op.operands])]
  | indexAddr t x y => simp only [aopD, aop]; rw [e1 x (by simp [Op.operands]), e1 y (by simp [Op.operands])]
  | index t x y => simp only [aopD, aop]; rw [e1 x (by simp [Op.operands]), e1 y (by simp [Op.operands])]
  | extract x i => simp only [aopD, aop]; rw [e1 x (by simp [Op.operands])]
  | makeMap t r => cases r <;> rfl
  | _ => rfl

omit [Sym] in
theorem aopC_agree {T : TT} {call : CallF} {τ τ' : Env} {o : Op} (h : Agree τ τ' (opTmps o)) (hp : Hp) : aopC T call o τ hp = aopC T call o τ' hp := by
  have h' := h
  rw [opTmps_eq] at h'
  unfold aopC ahint
  rw [aopD_agree h, aevs_agree h']
  have : hintable τ o = hintable τ' o := by
    cases o with
    | convert s d x =>
      simp only [hintable]
      rw [aev_agree (h'.sub (tmpsOf_mem (by simp [Op.operands])))]
    | slice t x lo hi mx => cases mx <;> rfl
    | _ => rfl
  rw [this]

omit [Sym] in
theorem awant_agree {τ τ' : Env} {ops : Array Oper} {o : Oper} (h : Agree τ τ' (looks ops o)) : awant ops o τ = awant ops o τ' := by
  unfold awant
  split
  · rfl
  · rename_i j want hg
    cases hd : (ops[j]?).bind (·.dst) with
    | none => rfl
    | some d =>
      simp only
      rw [h d (by simp [looks, hg, hd])]

/-! ### Kinds: 0 computes, 1 reads, 2 lays a new block, 3 the rest -/
def kind (o : Op) (same : Bool) (v : Value) : Nat :=
  match o with
  | .move _ | .assign _ | .pick .. | .build .. | .nilCheck _ | .binOp .. | .unOp .. | .makeFunc .. | .slice .. | .fieldAddr .. | .field .. | .indexAddr .. | .index .. | .extract .. => 0
  | .load .. => 1
  | .alloc _ | .box .. | .buildSlice .. | .makeSlice .. => 2
  | .convert .. => bif same then (match v with | .string _ => 3 | _ => 0) else 2
  | .call c => match c.callee with
    | .builtin .len | .builtin .min | .builtin .max => 0
    | _ => 3
  | _ => 3

section
variable {T : TT} {call : CallG} {τ : Env}

omit [Sym] in
theorem un_free {o : Option Value} {h h2 h' : Hp} {v : Value} (ha : un o h = some (v, h')) : h' = h ∧ un o h2 = some (v, h2) := by
  obtain ⟨h1, h3⟩ := un_spec ha
  subst h1
  exact ⟨h3, rfl⟩

omit [Sym] in
theorem kindD0 {o : Op} {h h' : Hp} {v : Value} {b : Bool} (hb : b = Nat.beq h'.next h.next) (hk : kind o b v = 0) (ha : aopD T call o τ h = some (v, h')) : h' = h ∧ ∀ h2, aopD T call o τ h2 = some (v, h2) := by
  cases o with
  | call c =>
    simp only [kind] at hk
    simp only [aopD] at ha ⊢
    split at hk
    · rename_i hc
      simp only [hc] at ha ⊢
      split at ha
      · rename_i vs hvs
        simp only [abuiltin] at ha ⊢
        split at ha
        · split at ha
          · rename_i u hu
            simp only [Option.some.injEq, Prod.mk.injEq] at ha
            obtain ⟨rfl, rfl⟩ := ha
            exact ⟨rfl, fun _ => rfl⟩
          · cases ha
        · cases ha
      · cases ha
    · rename_i hc
      simp only [hc] at ha ⊢
      split at ha
      · rename_i vs hvs
        simp only [abuiltin] at ha ⊢
        cases hz : vs.all gnd with
        | false => rw [hz] at ha; cases ha
        | true =>
          rw [hz] at ha
          simp only [cond_true] at ha ⊢
          split at ha
          · simp only [Option.some.injEq, Prod.mk.injEq] at ha
            obtain ⟨rfl, rfl⟩ := ha
            exact ⟨rfl, fun _ => rfl⟩
          · cases ha
      · cases ha
    · rename_i hc
      simp only [hc] at ha ⊢
      split at ha
      · rename_i vs hvs
        simp only [abuiltin] at ha ⊢
        cases hz : vs.all gnd with
        | false => rw [hz] at ha; cases ha
        | true =>
          rw [hz] at ha
          simp only [cond_true] at ha ⊢
          split at ha
          · simp only [Option.some.injEq, Prod.mk.injEq] at ha
            obtain ⟨rfl, rfl⟩ := ha
            exact ⟨rfl, fun _ => rfl⟩
          · cases ha
      · cases ha
    · cases hk
  | convert s d x =>
    simp only [kind] at hk
    cases hb2 : b with
    | false => rw [hb2] at hk; cases hk
    | true =>
      rw [hb2] at hb
      have hn : h'.next = h.next := Nat.eq_of_beq_eq_true hb.symm
      simp only [aopD, aop] at ha ⊢
      split at ha
      · rename_i u hu
        unfold aconv at ha
        split at ha
        · rename_i i dd kk n hi hd
          split at ha
          · rename_i k hk'
            simp only [Option.some.injEq, Prod.mk.injEq] at ha
            obtain ⟨rfl, rfl⟩ := ha
            exact ⟨rfl, fun h2 => by simp only [aconv, hi, hd, hk']⟩
          · cases ha
        · rename_i i dd bb hi hd
          split at ha
          · rename_i hk'
            simp only [Option.some.injEq, Prod.mk.injEq] at ha
            obtain ⟨rfl, rfl⟩ := ha
            rw [hb2] at hk
            cases hk
          · split at ha
            · split at ha
              · simp only [Option.some.injEq, Prod.mk.injEq] at ha
                obtain ⟨rfl, rfl⟩ := ha
                simp [Hp.new] at hn
              · cases ha
            · cases ha
          · cases ha
        · split at ha
          · split at ha
            · split at ha
              · split at ha
                · split at ha
                  · simp only [Option.some.injEq, Prod.mk.injEq] at ha
                    obtain ⟨rfl, rfl⟩ := ha
                    rw [hb2] at hk
                    cases hk
                  · cases ha
                · cases ha
              · cases ha
            · cases ha
          · cases ha
        · split at ha
          · split at ha
            · split at ha
              · simp only [Option.some.injEq, Prod.mk.injEq] at ha
                obtain ⟨rfl, rfl⟩ := ha
                rw [hb2] at hk
                cases hk
              · cases ha
            · cases ha
          · cases ha
        · cases ha
      · cases ha
  | move x => exact ⟨(un_free (h2 := h) ha).1, fun h2 => (un_free ha).2⟩
  | assign x => exact ⟨(un_free (h2 := h) ha).1, fun h2 => (un_free ha).2⟩
  | pick c x y =>
    simp only [aopD, aop] at ha ⊢
    split at ha
    · exact ⟨(un_free (h2 := h) ha).1, fun h2 => (un_free ha).2⟩
    · exact ⟨(un_free (h2 := h) ha).1, fun h2 => (un_free ha).2⟩
    · cases ha
  | build t ps =>
    simp only [aopD, aop] at ha ⊢
    split at ha
    · exact ⟨(un_free (h2 := h) ha).1, fun h2 => (un_free ha).2⟩
    · cases ha
  | nilCheck x =>
    simp only [aopD, aop] at ha ⊢
    split at ha
    · simp only [Option.some.injEq, Prod.mk.injEq] at ha
      obtain ⟨rfl, rfl⟩ := ha
      exact ⟨rfl, fun _ => rfl⟩
    · simp only [Option.some.injEq, Prod.mk.injEq] at ha
      obtain ⟨rfl, rfl⟩ := ha
      exact ⟨rfl, fun _ => rfl⟩
    · cases ha
  | binOp op t x y u =>
    simp only [aopD, aop] at ha ⊢
    split at ha
    · exact ⟨(un_free (h2 := h) ha).1, fun h2 => (un_free ha).2⟩
    · cases ha
  | unOp op t x =>
    simp only [aopD, aop] at ha ⊢
    split at ha
    · rename_i u hu
      cases hz : gnd u with
      | false => rw [hz] at ha; cases ha
      | true =>
        rw [hz] at ha
        exact ⟨(un_free (h2 := h) ha).1, fun h2 => (un_free ha).2⟩
    · cases ha
  | makeFunc fn a c =>
    simp only [aopD, aop] at ha ⊢
    split at ha
    · simp only [Option.some.injEq, Prod.mk.injEq] at ha
      obtain ⟨rfl, rfl⟩ := ha
      exact ⟨rfl, fun _ => rfl⟩
    · cases ha
  | slice t x lo hi mx =>
    cases mx with
    | some m => simp [aopD, aop] at ha
    | none =>
      simp only [aopD, aop] at ha ⊢
      split at ha
      · split at ha
        · exact ⟨(un_free (h2 := h) ha).1, fun h2 => (un_free ha).2⟩
        · exact ⟨(un_free (h2 := h) ha).1, fun h2 => (un_free ha).2⟩
        · cases ha
      · cases ha
  | fieldAddr t x f =>
    simp only [aopD, aop] at ha ⊢
    split at ha
    · exact ⟨(un_free (h2 := h) ha).1, fun h2 => (un_free ha).2⟩
    · cases ha
  | field t x f =>
    simp only [aopD, aop] at ha ⊢
    split at ha
    · exact ⟨(un_free (h2 := h) ha).1, fun h2 => (un_free ha).2⟩
    · cases ha
  | indexAddr t x y =>
    simp only [aopD, aop] at ha ⊢
    split at ha
    · exact ⟨(un_free (h2 := h) ha).1, fun h2 => (un_free ha).2⟩
    · cases ha
  | index t x y =>
    simp only [aopD, aop] at ha ⊢
    split at ha
    · exact ⟨(un_free (h2 := h) ha).1, fun h2 => (un_free ha).2⟩
    · cases ha
  | extract x i =>
    simp only [aopD, aop] at ha ⊢
    split at ha
    · exact ⟨(un_free (h2 := h) ha).1, fun h2 => (un_free ha).2⟩
    · cases ha
  | load t x => simp [kind] at hk
  | alloc t => simp [kind] at hk
  | box t x => simp [kind] at hk
  | buildSlice t n ps => simp [kind] at hk
  | makeSlice t x y => simp [kind] at hk
  | _ => simp [kind] at hk

omit [Sym] in
theorem kindD2 {o : Op} {h h' : Hp} {v : Value} {b : Bool} (hb : b = Nat.beq h'.next h.next) (hk : kind o b v = 2) (ha : aopD T call o τ h = some (v, h')) :
    ∃ blk, h' = h.new blk ∧ (v = .pointer (some ⟨h.next, 0, none⟩) ∨ ∃ len e, v = .slice (some ⟨h.next, 0, none⟩) len e) ∧ ∀ b', aopD T call o τ ⟨b', h.next⟩ = some (v, (⟨b', h.next⟩ : Hp).new blk) := by
  cases o with
  | convert s d x =>
    simp only [kind] at hk
    cases hb2 : b with
    | true => rw [hb2] at hk; simp only [cond_true] at hk; split at hk <;> cases hk
    | false =>
      rw [hb2] at hb
      simp only [aopD, aop] at ha ⊢
      split at ha
      · rename_i u hu
        unfold aconv at ha
        split at ha
        · split at ha
          · simp only [Option.some.injEq, Prod.mk.injEq] at ha
            obtain ⟨rfl, rfl⟩ := ha
            simp at hb
          · cases ha
        · rename_i i dd bb hi hd
          split at ha
          · simp only [Option.some.injEq, Prod.mk.injEq] at ha
            obtain ⟨rfl, rfl⟩ := ha
            simp at hb
          · rename_i e he
            split at ha
            · rename_i ie hie hsd
              split at ha
              · rename_i hu8
                simp only [Option.some.injEq, Prod.mk.injEq] at ha
                obtain ⟨rfl, rfl⟩ := ha
                exact ⟨_, rfl, .inr ⟨_, _, rfl⟩, fun b' => by simp only [aconv, hi, hd, he, hie, hsd, hu8]⟩
              · cases ha
            · cases ha
          · cases ha
        · split at ha
          · split at ha
            · split at ha
              · split at ha
                · split at ha
                  · simp only [Option.some.injEq, Prod.mk.injEq] at ha
                    obtain ⟨rfl, rfl⟩ := ha
                    simp at hb
                  · cases ha
                · cases ha
              · cases ha
            · cases ha
          · cases ha
        · split at ha
          · split at ha
            · split at ha
              · simp only [Option.some.injEq, Prod.mk.injEq] at ha
                obtain ⟨rfl, rfl⟩ := ha
                simp at hb
              · cases ha
            · cases ha
          · cases ha
        · cases ha
      · cases ha
  | alloc t =>
    simp only [aopD, aop] at ha ⊢
    split at ha
    · rename_i i hi
      cases hz : i.zero.cells.toList.all gnd with
      | false => rw [hz] at ha; cases ha
      | true =>
        rw [hz] at ha
        simp only [cond_true, Option.some.injEq, Prod.mk.injEq] at ha
        obtain ⟨rfl, rfl⟩ := ha
        exact ⟨_, rfl, .inl rfl, fun _ => by simp only [cond_true]⟩
    · cases ha
  | box t x =>
    simp only [aopD, aop] at ha ⊢
    split at ha
    · simp only [Option.some.injEq, abox, Prod.mk.injEq] at ha
      obtain ⟨rfl, rfl⟩ := ha
      exact ⟨_, rfl, .inl rfl, fun _ => rfl⟩
    · cases ha
  | buildSlice t n ps =>
    simp only [aopD, aop] at ha ⊢
    split at ha
    · rename_i l hl
      unfold abuildSlice at ha
      split at ha
      · rename_i it hit
        split at ha
        · rename_i e hd
          split at ha
          · rename_i ie hie
            simp only at ha
            cases hz : (Nat.ble (n * ie.size) 16777216 && (rowOf (bif Nat.beq (n * ie.size) 0 then #[] else ie.zero.cells) (n * ie.size)).toList.all gnd) with
            | false => rw [hz] at ha; cases ha
            | true =>
              rw [hz] at ha
              simp only [cond_true] at ha
              split at ha
              · rename_i c hc
                simp only [Option.some.injEq, Prod.mk.injEq] at ha
                obtain ⟨rfl, rfl⟩ := ha
                exact ⟨_, rfl, .inr ⟨_, _, rfl⟩, fun b' => by simp only [abuildSlice, hit, hd, hie, hz, cond_true, hc]⟩
              · cases ha
          · cases ha
        · cases ha
      · cases ha
    · cases ha
  | makeSlice t x y =>
    simp only [aopD, aop] at ha ⊢
    split at ha
    · rename_i u v0 hu hv0
      unfold amakeSlice at ha
      split at ha
      · rename_i i k l k2 c hit
        split at ha
        · rename_i e hd
          split at ha
          · rename_i j hj
            simp only at ha
            cases hz : decide (0 ≤ l) && decide (l ≤ c) && decide (c ≤ 2147483647) && decide (j.bytes * c ≤ 281474976710656) && (rowOf (bif Nat.beq (c.toNat * j.size) 0 then #[] else j.zero.cells) (c.toNat * j.size)).toList.all gnd with
            | false => rw [hz] at ha; cases ha
            | true =>
              rw [hz] at ha
              simp only [cond_true, Option.some.injEq, Prod.mk.injEq] at ha
              obtain ⟨rfl, rfl⟩ := ha
              exact ⟨_, rfl, .inr ⟨_, _, rfl⟩, fun b' => by simp only [amakeSlice, hit, hd, hj, hz, cond_true]⟩
          · cases ha
        · cases ha
      · cases ha
    · cases ha
  | call c =>
    simp only [kind] at hk
    split at hk <;> cases hk
  | _ => simp [kind] at hk

omit [Sym] in
theorem kindD1 {o : Op} {h h' : Hp} {v : Value} {b : Bool} (hk : kind o b v = 1) (ha : aopD T call o τ h = some (v, h')) :
    h' = h ∧ ∃ t x p, o = .load t x ∧ aev τ x = some p ∧ aload T t h p = some v := by
  cases o with
  | load t x =>
    simp only [aopD, aop] at ha
    split at ha
    · rename_i p hp
      obtain ⟨h1, h2⟩ := un_spec ha
      exact ⟨h2, t, x, p, rfl, hp, h1⟩
    · cases ha
  | convert s d x => simp only [kind] at hk; cases b <;> simp only [cond_true, cond_false] at hk <;> first | (split at hk <;> cases hk) | cases hk
  | call c => simp only [kind] at hk; split at hk <;> cases hk
  | _ => simp [kind] at hk

omit [Sym] in
theorem hintable_kind {τ : Env} {o : Op} {b : Bool} {v : Value} (hh : hintable τ o = true) : kind o b v = 0 ∨ ∃ s d x n u, o = .convert s d x ∧ aev τ x = some (.iface n u) := by
  cases o with
  | convert s d x =>
    simp only [hintable] at hh
    split at hh
    · rename_i n u hx
      exact .inr ⟨s, d, x, n, u, rfl, hx⟩
    · cases hh
  | call c =>
    left
    simp only [hintable] at hh
    simp only [kind]
    split at hh
    · rename_i e; simp only [e]
    · rename_i e; simp only [e]
    · rename_i e; simp only [e]
    · cases hh
  | binOp => exact .inl rfl
  | unOp => exact .inl rfl
  | index => exact .inl rfl
  | slice t x lo hi mx => cases mx with | none => exact .inl rfl | some => cases hh
  | _ => cases hh

omit [Sym] in
theorem hintable_none {o : Op} {h : Hp} (hh : hintable τ o = true) (hn : aopD T call o τ h = none) (h2 : Hp) : aopD T call o τ h2 = none := by
  cases hx : aopD T call o τ h2 with
  | none => rfl
  | some r =>
    exfalso
    obtain ⟨v, h'⟩ := r
    rcases hintable_kind (b := Nat.beq h'.next h2.next) (v := v) hh with hk | ⟨s, d, x, n, u, rfl, hu⟩
    · have := (kindD0 rfl hk hx).2 h
      rw [this] at hn; cases hn
    · simp only [aopD, aop, hu, aconv] at hx
      split at hx
      · rename_i e; cases e
      · rename_i e; cases e
      · rename_i e; cases e
      · rename_i e; cases e
      · cases hx
end

section
variable {T : TT} {call : CallF} {τ : Env}
omit [Sym] in
theorem kind0 {o : Op} {h h' : Hp} {v : Value} {b : Bool} (hb : b = Nat.beq h'.next h.next) (hk : kind o b v = 0) (ha : aopC T call o τ h = some (v, h')) : h' = h ∧ ∀ h2, aopC T call o τ h2 = some (v, h2) := by
  unfold aopC at ha ⊢
  split at ha
  · rename_i r hr
    simp only [Option.some.injEq] at ha
    subst ha
    obtain ⟨h1, h2⟩ := kindD0 hb hk hr
    exact ⟨h1, fun x => by rw [h2 x]⟩
  · rename_i hr
    obtain ⟨hh, rfl, vs, hvs, hv⟩ := ahint_spec ha
    refine ⟨rfl, fun x => ?_⟩
    rw [hintable_none hh hr x]
    simp only [ahint, hh, cond_true, hvs, hv, un]

omit [Sym] in
theorem kind2 {o : Op} {h h' : Hp} {v : Value} {b : Bool} (hb : b = Nat.beq h'.next h.next) (hk : kind o b v = 2) (ha : aopC T call o τ h = some (v, h')) :
    ∃ blk, h' = h.new blk ∧ (v = .pointer (some ⟨h.next, 0, none⟩) ∨ ∃ len e, v = .slice (some ⟨h.next, 0, none⟩) len e) ∧ ∀ b', aopC T call o τ ⟨b', h.next⟩ = some (v, (⟨b', h.next⟩ : Hp).new blk) := by
  unfold aopC at ha
  split at ha
  · rename_i r hr
    simp only [Option.some.injEq] at ha
    subst ha
    obtain ⟨blk, h1, h2, h3⟩ := kindD2 hb hk hr
    exact ⟨blk, h1, h2, fun b' => by unfold aopC; rw [h3 b']⟩
  · rename_i hr
    obtain ⟨hh, rfl, vs, hvs, hv⟩ := ahint_spec ha
    exfalso
    have hb' : b = true := by rw [hb]; exact Nat.beq_refl _
    rcases hintable_kind (b := b) (v := v) hh with h0 | ⟨s, d, x, n, u, rfl, hu⟩
    · rw [h0] at hk; cases hk
    · subst hb'
      simp only [kind, cond_true] at hk
      split at hk <;> cases hk

omit [Sym] in
theorem kind1 {o : Op} {h h' : Hp} {v : Value} {b : Bool} (hk : kind o b v = 1) (ha : aopC T call o τ h = some (v, h')) :
    h' = h ∧ ∃ t x p, o = .load t x ∧ aev τ x = some p ∧ aload T t h p = some v := by
  unfold aopC at ha
  split at ha
  · rename_i r hr
    simp only [Option.some.injEq] at ha
    subst ha
    exact kindD1 hk hr
  · obtain ⟨hh, rfl, vs, hvs, hv⟩ := ahint_spec ha
    exfalso
    rcases hintable_kind (b := b) (v := v) hh with h0 | ⟨s, d, x, n, u, rfl, hu⟩
    · rw [h0] at hk; cases hk
    · simp only [kind] at hk
      cases b <;> simp only [cond_true, cond_false] at hk <;> first | (split at hk <;> cases hk) | cases hk
end
end Go.Ev
