/- The same, faster for the kernel. -/
import Derived.Test.YtbnojnnmjdmmoaaGreatDoorEvYA
namespace Go.Ev

/-! ### Trees along a path -/
noncomputable def b3 {β : Type} (i : Nat) (p a b c d e f g : β) : β :=
  Bool.rec (motive := fun _ => β) (Bool.rec (motive := fun _ => β) (Bool.rec (motive := fun _ => β) g f (bitC i)) (Bool.rec (motive := fun _ => β) e d (bitC i)) (bitB i))
    (Bool.rec (motive := fun _ => β) (Bool.rec (motive := fun _ => β) c b (bitC i)) (Bool.rec (motive := fun _ => β) a p (bitC i)) (bitB i)) (bitA i)
noncomputable def oget {α : Type} (i : Nat) : Oct α → α := b3 i Oct.a Oct.b Oct.c Oct.d Oct.e Oct.f Oct.g Oct.h
theorem oget_eq {α : Type} (i : Nat) (o : Oct α) : oget i o = o.get (bitA i) (bitB i) (bitC i) := by
  unfold oget b3 Oct.get
  cases bitA i <;> cases bitB i <;> cases bitC i <;> rfl
def sA {α : Type} (q : α → α) (o : Oct α) : Oct α := ⟨q o.a, o.b, o.c, o.d, o.e, o.f, o.g, o.h⟩
def sB {α : Type} (q : α → α) (o : Oct α) : Oct α := ⟨o.a, q o.b, o.c, o.d, o.e, o.f, o.g, o.h⟩
def sC {α : Type} (q : α → α) (o : Oct α) : Oct α := ⟨o.a, o.b, q o.c, o.d, o.e, o.f, o.g, o.h⟩
def sD {α : Type} (q : α → α) (o : Oct α) : Oct α := ⟨o.a, o.b, o.c, q o.d, o.e, o.f, o.g, o.h⟩
def sE {α : Type} (q : α → α) (o : Oct α) : Oct α := ⟨o.a, o.b, o.c, o.d, q o.e, o.f, o.g, o.h⟩
def sF {α : Type} (q : α → α) (o : Oct α) : Oct α := ⟨o.a, o.b, o.c, o.d, o.e, q o.f, o.g, o.h⟩
def sG {α : Type} (q : α → α) (o : Oct α) : Oct α := ⟨o.a, o.b, o.c, o.d, o.e, o.f, q o.g, o.h⟩
def sH {α : Type} (q : α → α) (o : Oct α) : Oct α := ⟨o.a, o.b, o.c, o.d, o.e, o.f, o.g, q o.h⟩
noncomputable def oset {α : Type} (i : Nat) : (α → α) → Oct α → Oct α := b3 i sA sB sC sD sE sF sG sH
theorem oset_eq {α : Type} (i : Nat) (q : α → α) (o : Oct α) : oset i q o = o.set (bitA i) (bitB i) (bitC i) q := by
  unfold oset b3 Oct.set
  cases bitA i <;> cases bitB i <;> cases bitC i <;> rfl
noncomputable def fget {α : Type} (t : Tr α) (k : Nat) : Option α := kvGet (oget (k / 64) (oget (k / 8) (oget k t.t))) k
theorem fget_eq {α : Type} (t : Tr α) (k : Nat) : fget t k = t.get k := by
  unfold fget Tr.get Tr.row
  rw [oget_eq, oget_eq, oget_eq]
noncomputable def fset {α : Type} (t : Tr α) (k : Nat) (x : Option α) : Tr α := ⟨oset k (oset (k / 8) (oset (k / 64) fun l => kvSet l k x)) t.t⟩
theorem fset_eq {α : Type} (t : Tr α) (k : Nat) (x : Option α) : fset t k x = t.set k x := by
  unfold fset Tr.set
  rw [oset_eq]
  congr 2
  funext o
  rw [oset_eq]
  congr 1
  funext o
  rw [oset_eq]

/-! ### Operations -/
noncomputable def faev (x : Operand) (τ : Env) : Option Value :=
  Operand.rec (motive := fun _ => Env → Option Value) (fun t τ => fget τ t) (fun v _ => bif cst v then some v else none) (fun _ _ => none) (fun f _ => some (.func (.func f) #[] #[])) x τ
theorem faev_eq (τ : Env) (x : Operand) : faev x τ = aev τ x := by
  cases x <;> first | rfl | exact fget_eq _ _

abbrev Res := Option (Value × Hp)
noncomputable def ob {α β : Type} (o : Option α) (f : α → Option β) : Option β := Option.rec (motive := fun _ => Option β) none f o
theorem ob_eq {α β : Type} (o : Option α) (f : α → Option β) : ob o f = (match o with | some v => f v | none => none) := by cases o <;> rfl
noncomputable def fun1 (o : Option Value) (h : Hp) : Res := ob o fun v => some (v, h)
theorem fun1_eq (o : Option Value) (h : Hp) : fun1 o h = un o h := by cases o <;> rfl

noncomputable def o1 (f : Value → Option Value) (x : Operand) (τ : Env) (h : Hp) : Res := ob (faev x τ) fun v => fun1 (f v) h
noncomputable def o2 (f : Value → Value → Option Value) (x y : Operand) (τ : Env) (h : Hp) : Res := ob (faev x τ) fun u => ob (faev y τ) fun v => fun1 (f u v) h
noncomputable def oMv (x : Operand) (τ : Env) (h : Hp) : Res := fun1 (faev x τ) h
noncomputable def oLd (T : TT) (t : TypeId) (x : Operand) (τ : Env) (h : Hp) : Res := ob (faev x τ) fun p => fun1 (aload T t h p) h
noncomputable def oSt (T : TT) (t : TypeId) (x y : Operand) (τ : Env) (h : Hp) : Res := ob (faev x τ) fun p => ob (faev y τ) fun v => ob (astore T t h p v) fun h' => some (undef, h')
noncomputable def oPk (c x y : Operand) (τ : Env) (h : Hp) : Res := match faev c τ with
  | some (.bool true) => fun1 (faev x τ) h
  | some (.bool false) => fun1 (faev y τ) h
  | _ => none
noncomputable def oOr (a : Env → Hp → Res) (b : Env → Hp → Res) (τ : Env) (h : Hp) : Res := Option.rec (motive := fun _ => Res) (b τ h) some (a τ h)

noncomputable def fop (T : TT) (call : CallF) (o : Op) : Env → Hp → Res :=
  match o with
  | .move x => oMv x
  | .assign x => oMv x
  | .pick c x y => oPk c x y
  | .load t x => oLd T t x
  | .store t x y => oSt T t x y
  | .binOp op t x y u => oOr (o2 (abin T op t) x y) (ahint call.hint (.binOp op t x y u))
  | .fieldAddr t x f => o1 (fun v => afieldAddr T t v f) x
  | .field t x f => o1 (fun v => afield T t v f) x
  | .indexAddr t x y => o2 (aindexAddr T t) x y
  | .index t x y => oOr (o2 (aindex T t) x y) (ahint call.hint (.index t x y))
  | .extract x i => o1 (fun v => aextract v i) x
  | o => aopC T call o

theorem oOr_eq (a b : Env → Hp → Res) (τ : Env) (h : Hp) : oOr a b τ h = (match a τ h with | some r => some r | none => b τ h) := by
  unfold oOr; cases a τ h <;> rfl
theorem ahint_no {hint : Hint} {o : Op} {τ : Env} {h : Hp} (hh : hintable τ o = false) : ahint hint o τ h = none := by unfold ahint; rw [hh]; rfl
theorem aopC_no {T : TT} {call : CallF} {o : Op} {τ : Env} {h : Hp} (hh : hintable τ o = false) : aopC T call o τ h = aopD T call.fn o τ h := by
  unfold aopC
  rw [ahint_no hh]
  cases aopD T call.fn o τ h <;> rfl

theorem fop_eq (T : TT) (call : CallF) (o : Op) (τ : Env) (h : Hp) : fop T call o τ h = aopC T call o τ h := by
  cases o with
  | move x => rw [aopC_no rfl]; simp only [fop, oMv, faev_eq, fun1_eq]; rfl
  | assign x => rw [aopC_no rfl]; simp only [fop, oMv, faev_eq, fun1_eq]; rfl
  | pick c x y => rw [aopC_no rfl]; simp only [fop, oPk, faev_eq, fun1_eq, aopD, aop]; cases aev τ c with
    | none => rfl
    | some v => cases v <;> first | rfl | (rename_i b; cases b <;> rfl)
  | load t x => rw [aopC_no rfl]; simp only [fop, oLd, faev_eq, fun1_eq, ob_eq, aopD, aop]; cases aev τ x <;> rfl
  | store t x y =>
    rw [aopC_no rfl]; simp only [fop, oSt, faev_eq, ob_eq, aopD, aop]
    cases aev τ x with
    | none => rfl
    | some p =>
      cases aev τ y with
      | none => rfl
      | some v => simp only; cases astore T t h p v <;> rfl
  | binOp op t x y u =>
    simp only [fop, oOr_eq]
    unfold aopC
    have : o2 (abin T op t) x y τ h = aopD T call.fn (.binOp op t x y u) τ h := by
      simp only [o2, faev_eq, fun1_eq, ob_eq, aopD, aop]
      cases aev τ x <;> cases aev τ y <;> rfl
    rw [this]
    cases aopD T call.fn (.binOp op t x y u) τ h <;> rfl
  | fieldAddr t x f => rw [aopC_no rfl]; simp only [fop, o1, faev_eq, fun1_eq, ob_eq, aopD, aop]; cases aev τ x <;> rfl
  | field t x f => rw [aopC_no rfl]; simp only [fop, o1, faev_eq, fun1_eq, ob_eq, aopD, aop]; cases aev τ x <;> rfl
  | indexAddr t x y =>
    rw [aopC_no rfl]; simp only [fop, o2, faev_eq, fun1_eq, ob_eq, aopD, aop]
    cases aev τ x <;> cases aev τ y <;> rfl
  | index t x y =>
    simp only [fop, oOr_eq]
    unfold aopC
    have : o2 (aindex T t) x y τ h = aopD T call.fn (.index t x y) τ h := by
      simp only [o2, faev_eq, fun1_eq, ob_eq, aopD, aop]
      cases aev τ x <;> cases aev τ y <;> rfl
    rw [this]
    cases aopD T call.fn (.index t x y) τ h <;> rfl
  | extract x i => rw [aopC_no rfl]; simp only [fop, o1, faev_eq, fun1_eq, ob_eq, aopD, aop]; cases aev τ x <;> rfl
  | _ => rfl

/-! ### Regions -/
noncomputable def fputD (d : Option Tmp) (τ : Env) (v : Value) : Env := Option.rec (motive := fun _ => Env) τ (fun t => fset τ t (some v)) d
theorem fputD_eq (d : Option Tmp) (τ : Env) (v : Value) : fputD d τ v = putD τ d v := by
  cases d with
  | none => rfl
  | some t => exact fset_eq _ _ _

noncomputable def fstep (ops : Array Oper) (o : Oper) (f : Env → Hp → Res) (k : Env → Hp → Option St) (τ : Env) (h : Hp) : Option St :=
  Option.rec (motive := fun _ => Option St) (ob (f τ h) fun r => k (fputD o.dst τ r.1) r.2)
    (fun _ => match awant ops o τ with
      | some true => ob (f τ h) fun r => k (fputD o.dst τ r.1) r.2
      | some false => k (fputD o.dst τ undef) h
      | none => none) o.guard
noncomputable def frun (T : TT) (call : CallF) (ops : Array Oper) (l : List Oper) : Env → Hp → Option St :=
  List.rec (motive := fun _ => Env → Hp → Option St) (fun τ h => some ⟨τ, h⟩) (fun o _ k => fstep ops o (fop T call o.op) k) l
theorem frun_eq (T : TT) (call : CallF) (ops : Array Oper) : ∀ (l : List Oper) (τ : Env) (h : Hp), frun T call ops l τ h = arun T call ops l ⟨τ, h⟩
  | [], τ, h => rfl
  | o :: r, τ, h => by
    show fstep ops o (fop T call o.op) (frun T call ops r) τ h = _
    unfold fstep
    simp only [arun]
    cases hg : o.guard with
    | none =>
      have hw : awant ops o τ = some true := by unfold awant; rw [hg]
      simp only [hw, fop_eq, ob_eq, fputD_eq]
      cases aopC T call o.op τ h with
      | none => rfl
      | some r' => obtain ⟨v, h'⟩ := r'; exact frun_eq T call ops r _ _
    | some g =>
      simp only [fop_eq, ob_eq, fputD_eq]
      cases awant ops o τ with
      | none => rfl
      | some b =>
        cases b with
        | true =>
          cases aopC T call o.op τ h with
          | none => rfl
          | some r' => obtain ⟨v, h'⟩ := r'; exact frun_eq T call ops r _ _
        | false => exact frun_eq T call ops r _ _

noncomputable def frg (T : TT) (call : CallF) (ops : Array Oper) (draw : Bool) (τ : Env) (h : Hp) : Option St :=
  Bool.rec (motive := fun _ => Option St) (frun T call ops ops.toList τ h) (adraw T call ops ⟨τ, h⟩) draw
theorem frg_eq (T : TT) (call : CallF) (ops : Array Oper) (draw : Bool) (st : St) : frg T call ops draw st.τ st.h = rgOf T call ops draw st := by
  unfold frg rgOf
  cases draw with
  | true => rfl
  | false => exact frun_eq T call ops _ _ _

/-! ### Code -/
noncomputable def fnorm (o : Option St) : Option (Ex × St) := ob o fun st => some (.normal, st)
noncomputable def fseq (k : Env → Hp → Option (Ex × St)) (o : Option (Ex × St)) : Option (Ex × St) :=
  Option.rec (motive := fun _ => Option (Ex × St)) none (fun p => Ex.rec (motive := fun _ => Option (Ex × St)) (k p.2.τ p.2.h) (fun _ => o) o p.1) o

noncomputable def fexec (T : TT) (call : CallF) (lf n : Nat) : Code → Env → Hp → Option (Ex × St)
  | .skip => fun τ h => some (.normal, ⟨τ, h⟩)
  | .label _ => fun τ h => some (.normal, ⟨τ, h⟩)
  | .region _ ops draw => fun τ h => bif roomFor n ops.toList then fnorm (frg T call ops draw τ h) else none
  | .seq a b => fun τ h => fseq (fexec T call lf n b) (fexec T call lf n a τ h)
  | .cond c x y => fun τ h => match faev c τ with
    | some (.bool true) => fexec T call lf n x τ h
    | some (.bool false) => fexec T call lf n y τ h
    | _ => none
  | .block id c => fun τ h => match fexec T call lf n c τ h with
    | some (.exit id', st') => bif Nat.beq id' id then some (.normal, st') else some (.exit id', st')
    | r => r
  | .loop c => fun τ h => loopN (fun s => fexec T call lf n c s.τ s.h) lf ⟨τ, h⟩
  | .exit id => fun τ h => some (.exit id, ⟨τ, h⟩)
  | .ret => fun τ h => some (.ret, ⟨τ, h⟩)
  | _ => fun _ _ => none

theorem fexec_eq (T : TT) (call : CallF) (lf n : Nat) : ∀ (c : Code) (st : St), fexec T call lf n c st.τ st.h = exec (rgOf T call) lf n c st := by
  intro c
  induction c with
  | region id ops draw =>
    intro st
    simp only [fexec, exec, frg_eq]
    cases roomFor n ops.toList with
    | false => rfl
    | true =>
      simp only [cond_true, fnorm, ob_eq]
      cases rgOf T call ops draw st <;> rfl
  | seq a b iha ihb =>
    intro st
    simp only [fexec, exec, iha]
    cases hx : exec (rgOf T call) lf n a st with
    | none => rfl
    | some p =>
      obtain ⟨ex, st'⟩ := p
      cases ex with
      | normal => exact ihb st'
      | _ => rfl
  | cond c x y ihx ihy =>
    intro st
    simp only [fexec, exec, faev_eq, ihx, ihy]
    cases aev st.τ c with
    | none => rfl
    | some v => cases v <;> first | rfl | (rename_i b; cases b <;> rfl)
  | block id c ih =>
    intro st
    simp only [fexec, exec, ih]
    cases exec (rgOf T call) lf n c st with
    | none => rfl
    | some p => obtain ⟨ex, st'⟩ := p; cases ex <;> rfl
  | loop c ih =>
    intro st
    simp only [fexec, exec]
    congr 1
    funext s
    exact ih s
  | _ => intro st; rfl

noncomputable def fbody (T : TT) (call : CallF) (lf n : Nat) (c : Code) (rs : List ResultVar) (vs : List Value) (h : Hp) : Res :=
  bif Nat.ble vs.length n then
    match fexec T call lf n c (envOf vs 0 .emp) h with
    | some (.normal, st) => match ares T st rs with | some l => some (one l, st.h) | none => none
    | some (.ret, st) => match ares T st rs with | some l => some (one l, st.h) | none => none
    | _ => none
  else none
theorem fbody_eq (T : TT) (call : CallF) (lf n : Nat) (c : Code) (rs : List ResultVar) (vs : List Value) (h : Hp) : fbody T call lf n c rs vs h = callBody T (rgOf T call) lf n c rs vs h := by
  unfold fbody callBody
  rw [fexec_eq T call lf n c ⟨envOf vs 0 .emp, h⟩]
  cases exec (rgOf T call) lf n c ⟨envOf vs 0 .emp, h⟩ with
  | none => rfl
  | some p =>
    obtain ⟨ex, st'⟩ := p
    cases ex with
    | normal => simp only; cases ares T st' rs <;> rfl
    | ret => simp only; cases ares T st' rs <;> rfl
    | _ => rfl

noncomputable def fbodyOf (T : TT) (call : CallF) (lf : Nat) (fn : Func) (vs : List Value) (h : Hp) : Res :=
  match fn.body with
  | some c => fbody T call lf fn.ntmps c fn.results.toList vs h
  | none => none

noncomputable def callF (T : TT) (F : Nat → Option Func) (sp : Nat → Option ASpec) (hint : Hint) (lf : Nat) : Nat → CallG
  | 0 => fun _ _ _ => none
  | d + 1 => fun f vs h => match askS sp f vs h with
    | some r => some r
    | none => match F f with
      | some fn => fbodyOf T ⟨callF T F sp hint lf d, hint⟩ lf fn vs h
      | none => none
theorem callF_eq (T : TT) (F : Nat → Option Func) (sp : Nat → Option ASpec) (hint : Hint) (lf : Nat) : ∀ d, callF T F sp hint lf d = (callN T F sp hint lf d).fn
  | 0 => rfl
  | d + 1 => by
    have ih := callF_eq T F sp hint lf d
    have ih2 : (⟨callF T F sp hint lf d, hint⟩ : CallF) = callN T F sp hint lf d := by
      rw [ih]
      cases d <;> rfl
    funext f vs h
    simp only [callF, callN, ih2]
    cases askS sp f vs h with
    | some g => rfl
    | none =>
      simp only
      cases F f with
      | none => rfl
      | some fn =>
        simp only [fbodyOf]
        cases fn.body with
        | none => rfl
        | some c => exact fbody_eq _ _ _ _ _ _ _ _

noncomputable def callQ (P : Program) (sp : Nat → Option ASpec) (hint : Hint) (lf d : Nat) : CallG := callF (TTof P) (fun f => P.funcs[f]?) sp hint lf d
theorem callQ_eq (P : Program) (sp : Nat → Option ASpec) (hint : Hint) (lf d : Nat) : callQ P sp hint lf d = callP P sp hint lf d := callF_eq _ _ _ _ _ _
end Go.Ev
