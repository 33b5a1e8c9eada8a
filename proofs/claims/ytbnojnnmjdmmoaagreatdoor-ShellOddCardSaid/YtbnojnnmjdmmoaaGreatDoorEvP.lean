/- Regions that draw their order: looked at ahead. -/
import Derived.Test.YtbnojnnmjdmmoaaGreatDoorEvO
namespace Go.Ev
variable [Sym]

def allI {α : Type} (p : Nat → α → Bool) : List α → Nat → Bool
  | [], _ => true
  | a :: r, i => p i a && allI p r (i + 1)
omit [Sym] in
theorem allI_spec {α : Type} {p : Nat → α → Bool} : ∀ {l : List α} {k : Nat}, allI p l k = true → ∀ (i : Nat) (a : α), l[i]? = some a → p (k + i) a = true
  | [], _, _, i, a, h => by simp at h
  | b :: r, k, hh, i, a, h => by
    simp only [allI, Bool.and_eq_true] at hh
    cases i with
    | zero => simp at h; subst h; exact hh.1
    | succ i =>
      have := allI_spec hh.2 i a (by simpa using h)
      rwa [show k + 1 + i = k + (i + 1) by omega] at this

def edgeMask (M : List Nat) (o : Oper) : Nat := o.after.toList.foldl (fun s e => bif Region.binds .any e then s ||| 2 ^ e.on ||| M.getD e.on 0 else s) 0
def masks : List Oper → List Nat → List Nat
  | [], acc => acc
  | o :: r, acc => masks r (acc ++ [edgeMask acc o])

omit [Sym] in
theorem fold_bit (M : List Nat) (j : Nat) : ∀ (l : List Edge) (s : Nat), (l.foldl (fun s e => bif Region.binds .any e then s ||| 2 ^ e.on ||| M.getD e.on 0 else s) s).testBit j = true →
    s.testBit j = true ∨ ∃ e ∈ l, Region.binds .any e = true ∧ (e.on = j ∨ (M.getD e.on 0).testBit j = true)
  | [], s, h => .inl h
  | e :: l, s, h => by
    simp only [List.foldl_cons] at h
    rcases fold_bit M j l _ h with h | ⟨e', he', hb⟩
    · cases hbd : Region.binds .any e with
      | false => rw [hbd] at h; exact .inl h
      | true =>
        rw [hbd] at h
        simp only [cond_true, Nat.testBit_or, Bool.or_eq_true, Nat.testBit_two_pow, decide_eq_true_eq] at h
        rcases h with (h | h) | h
        · exact .inl h
        · exact .inr ⟨e, by simp, hbd, .inl h⟩
        · exact .inr ⟨e, by simp, hbd, .inr h⟩
    · exact .inr ⟨e', by simp [he'], hb⟩

omit [Sym] in
theorem masks_get : ∀ (l : List Oper) (acc : List Nat) (i : Nat), i < acc.length → (masks l acc).getD i 0 = acc.getD i 0
  | [], acc, i, _ => rfl
  | o :: r, acc, i, h => by
    simp only [masks]
    rw [masks_get r _ i (by simp; omega)]
    simp [List.getD, List.getElem?_append_left h]

omit [Sym] in
theorem masks_at : ∀ (l : List Oper) (acc : List Nat) (i : Nat) (o : Oper), l[i]? = some o → ∃ M' : List Nat, M'.length = acc.length + i ∧ (∀ j, j < M'.length → (masks l acc).getD j 0 = M'.getD j 0) ∧ (masks l acc).getD (acc.length + i) 0 = edgeMask M' o
  | [], acc, i, o, h => by simp at h
  | b :: r, acc, 0, o, h => by
    simp at h; subst h
    refine ⟨acc, by simp, fun j hj => masks_get _ _ _ hj, ?_⟩
    simp only [masks]
    rw [Nat.add_zero, masks_get r _ acc.length (by simp)]
    simp [List.getD]
  | b :: r, acc, i + 1, o, h => by
    simp only [masks]
    obtain ⟨M', h1, h2, h3⟩ := masks_at r (acc ++ [edgeMask acc b]) i o (by simpa using h)
    refine ⟨M', by simp at h1; omega, h2, ?_⟩
    rw [← h3]; congr 1; simp; omega

omit [Sym] in
theorem masks_bit {l : List Oper} {i j : Nat} {o : Oper} (ho : l[i]? = some o) (he : ∀ e ∈ o.after.toList, Region.binds .any e = true → e.on < i) (h : ((masks l []).getD i 0).testBit j = true) :
    ∃ e ∈ o.after.toList, Region.binds .any e = true ∧ (e.on = j ∨ ((masks l []).getD e.on 0).testBit j = true) := by
  obtain ⟨M', h1, h2, h3⟩ := masks_at l [] i o ho
  simp only [List.length_nil, Nat.zero_add] at h1 h3
  rw [h3] at h
  rcases fold_bit M' j _ _ h with h | ⟨e, hem, hb, hj⟩
  · simp at h
  · refine ⟨e, hem, hb, ?_⟩
    rcases hj with hj | hj
    · exact .inl hj
    · refine .inr ?_
      rw [h2 _ (by have := he e hem hb; omega)]
      exact hj

def eqT (t : Tmp) (l : List Tmp) : Bool := l.any fun u => Nat.beq u t
omit [Sym] in
theorem eqT_mem {t : Tmp} {l : List Tmp} (h : t ∈ l) : eqT t l = true := by
  simp only [eqT, List.any_eq_true]
  exact ⟨t, h, Nat.beq_refl t⟩

/-- What is asked of a region once. -/
def stat (ops : Array Oper) (L : List Oper) (M : List Nat) : Bool :=
  allI (fun i o => o.after.toList.all fun e => !Region.binds .any e || Nat.blt e.on i) L 0 &&
  allI (fun i o =>
    let lk := looks ops o
    let mi := M.getD i 0
    allI (fun j o' => match o'.dst with
      | none => true
      | some t => Nat.beq i j || ((!(eqT t lk) || (mi.testBit j || (M.getD j 0).testBit i)) && (match o.dst with | some t' => !Nat.beq t' t | none => true))) L 0) L 0

structure Rc where
  run : Bool
  v : Value
  τ : Env
  h : Hp
  h' : Hp

def tr (T : TT) (call : CallF) (ops : Array Oper) : List Oper → St → Option (List Rc × St)
  | [], st => some ([], st)
  | o :: r, st => match awant ops o st.τ with
    | some true => match aopC T call o.op st.τ st.h with
      | some (v, h') => match tr T call ops r ⟨putD st.τ o.dst v, h'⟩ with
        | some (l, st') => some (⟨true, v, st.τ, st.h, h'⟩ :: l, st')
        | none => none
      | none => none
    | some false => match tr T call ops r ⟨putD st.τ o.dst undef, st.h⟩ with
      | some (l, st') => some (⟨false, undef, st.τ, st.h, st.h⟩ :: l, st')
      | none => none
    | none => none

def knd (o : Oper) (r : Rc) : Nat := bif r.run then kind o.op (Nat.beq r.h'.next r.h.next) r.v else 0

def wsOf : List Oper → List Rc → Nat → List (Nat × Hp)
  | o :: l, r :: rs, i => bif Nat.beq (knd o r) 3 then (i, r.h) :: wsOf l rs (i + 1) else wsOf l rs (i + 1)
  | _, _, _ => []

/-- Are two plain values the same? -/
def veq : Value → Value → Bool
  | .bool a, .bool b => a == b
  | .int k a, .int j b => decide (k = j) && (a == b)
  | .string a, .string b => decide (a.data.toList = b.data.toList)
  | .pointer none, .pointer none => true
  | .pointer (some ⟨n, o, none⟩), .pointer (some ⟨m, p, none⟩) => Nat.beq n m && Nat.beq o p
  | .slice none a b, .slice none c d => Nat.beq a c && Nat.beq b d
  | .slice (some ⟨n, o, none⟩) a b, .slice (some ⟨m, p, none⟩) c d => Nat.beq n m && Nat.beq o p && Nat.beq a c && Nat.beq b d
  | .map none, .map none => true
  | .map (some a), .map (some b) => Nat.beq a b
  | .nilFunc, .nilFunc => true
  | .nilIface, .nilIface => true
  | _, _ => false
omit [Sym] in
theorem veq_eq {a b : Value} (h : veq a b = true) : a = b := by
  unfold veq at h
  split at h <;> (try simp only [Bool.and_eq_true, beq_iff_eq, decide_eq_true_eq] at h)
  · rw [h]
  · rw [h.1, h.2]
  · rename_i x y
    obtain ⟨⟨x⟩⟩ := x
    obtain ⟨⟨y⟩⟩ := y
    simp at h
    rw [h]
  · rfl
  · rw [Nat.eq_of_beq_eq_true h.1, Nat.eq_of_beq_eq_true h.2]
  · rw [Nat.eq_of_beq_eq_true h.1, Nat.eq_of_beq_eq_true h.2]
  · rw [Nat.eq_of_beq_eq_true h.1.1.1, Nat.eq_of_beq_eq_true h.1.1.2, Nat.eq_of_beq_eq_true h.1.2, Nat.eq_of_beq_eq_true h.2]
  · rfl
  · rw [Nat.eq_of_beq_eq_true h]
  · rfl
  · rfl
  · cases h
def veqs : List Value → List Value → Bool
  | [], [] => true
  | a :: l, b :: r => veq a b && veqs l r
  | _, _ => false
omit [Sym] in
theorem veqs_eq : ∀ {l r : List Value}, veqs l r = true → l = r
  | [], [], _ => rfl
  | a :: l, b :: r, h => by
    simp only [veqs, Bool.and_eq_true] at h
    rw [veq_eq h.1, veqs_eq h.2]
  | [], _ :: _, h => by cases h
  | _ :: _, [], h => by cases h
def veqA (a b : Value) : Bool :=
  match a, b with
  | .agg x, .agg y => veqs x.toList y.toList
  | a, b => veq a b
omit [Sym] in
theorem veqA_eq {a b : Value} (h : veqA a b = true) : a = b := by
  unfold veqA at h
  split at h
  · rename_i x y
    have := veqs_eq h
    rw [Array.ext' this]
  · exact veq_eq h

/-- Each of the rest stands behind the one ahead of it. -/
def chain (M : List Nat) : List (Nat × Hp) → Bool
  | a :: b :: r => (M.getD b.1 0).testBit a.1 && chain M (b :: r)
  | _ => true

/-- May what is read be read with k of the rest done? -/
def may (M : List Nat) (i k : Nat) : List (Nat × Hp) → Nat → Bool
  | [], _ => true
  | (w, _) :: r, j => (bif Nat.blt j k then !((M.getD w 0).testBit i) else !((M.getD i 0).testBit w)) && may M i k r (j + 1)

def stages (ws : List (Nat × Hp)) (last : Hp) : List Hp := ws.map (·.2) ++ [last]
def countB (ws : List (Nat × Hp)) (i : Nat) : Nat := match ws with
  | [] => 0
  | (w, _) :: r => bif Nat.blt w i then countB r i + 1 else countB r i

def dynR (T : TT) (M : List Nat) (ws : List (Nat × Hp)) (X : List Hp) (i : Nat) (o : Oper) (r : Rc) : Bool :=
  match o.op with
  | .load t x => match aev r.τ x with
    | some p => allI (fun k h => Nat.beq k (countB ws i) || !(may M i k ws 0) || (match aload T t h p with | some v => veqA v r.v | none => false)) X 0
    | none => false
  | _ => true
def dynRs (T : TT) (M : List Nat) (ws : List (Nat × Hp)) (X : List Hp) : List Oper → List Rc → Nat → Bool
  | o :: l, r :: rs, i => (bif Nat.beq (knd o r) 1 then dynR T M ws X i o r else true) && dynRs T M ws X l rs (i + 1)
  | _, _, _ => true

def adraw (T : TT) (call : CallF) (ops : Array Oper) (st : St) : Option St :=
  bif stat ops ops.toList (masks ops.toList []) then
    match tr T call ops ops.toList st with
    | some (rs, st') =>
      match wsOf ops.toList rs 0 with
      | [] => some st'
      | ws => bif chain (masks ops.toList []) ws && dynRs T (masks ops.toList []) ws (stages ws st'.h) ops.toList rs 0 then some st' else none
    | none => none
  else none

/-! ### The trace -/
structure Trace (T : TT) (call : CallF) (ops : Array Oper) (L : List Oper) (rs : List Rc) (st st' : St) : Prop where
  len : rs.length = L.length
  h0 : (match rs[0]? with | some r => r.h | none => st'.h) = st.h
  t0 : (match rs[0]? with | some r => r.τ | none => st'.τ) = st.τ
  yes : ∀ (i : Nat) (o : Oper) (r : Rc), L[i]? = some o → rs[i]? = some r → r.run = true → awant ops o r.τ = some true ∧ aopC T call o.op r.τ r.h = some (r.v, r.h')
  no : ∀ (i : Nat) (o : Oper) (r : Rc), L[i]? = some o → rs[i]? = some r → r.run = false → awant ops o r.τ = some false ∧ r.v = undef ∧ r.h' = r.h
  hn : ∀ (i : Nat) (r : Rc), rs[i]? = some r → (match rs[i + 1]? with | some r => r.h | none => st'.h) = r.h'
  tn : ∀ (i : Nat) (o : Oper) (r : Rc), L[i]? = some o → rs[i]? = some r → (match rs[i + 1]? with | some r => r.τ | none => st'.τ) = putD r.τ o.dst r.v

omit [Sym] in
theorem tr_trace {T : TT} {call : CallF} {ops : Array Oper} : ∀ {L : List Oper} {st st' : St} {rs : List Rc}, tr T call ops L st = some (rs, st') → Trace T call ops L rs st st'
  | [], st, st', rs, h => by
    simp only [tr, Option.some.injEq, Prod.mk.injEq] at h
    obtain ⟨rfl, rfl⟩ := h
    exact ⟨rfl, rfl, rfl, fun i o r a => by simp at a, fun i o r a => by simp at a, fun i r a => by simp at a, fun i o r a => by simp at a⟩
  | o :: L, st, st', rs, h => by
    have cons : ∀ (r0 : Rc) (rs1 : List Rc) (st1 : St), r0.τ = st.τ → r0.h = st.h → st1.τ = putD st.τ o.dst r0.v → st1.h = r0.h' →
        (r0.run = true → awant ops o r0.τ = some true ∧ aopC T call o.op r0.τ r0.h = some (r0.v, r0.h')) → (r0.run = false → awant ops o r0.τ = some false ∧ r0.v = undef ∧ r0.h' = r0.h) →
        Trace T call ops L rs1 st1 st' → Trace T call ops (o :: L) (r0 :: rs1) st st' := by
      intro r0 rs1 st1 e1 e2 e3 e4 y n t
      refine ⟨by simp [t.len], by simpa using e2, by simpa using e1, ?_, ?_, ?_, ?_⟩
      · intro i o' r ho hr
        cases i with
        | zero => simp at ho hr; subst ho; subst hr; exact y
        | succ i => exact t.yes i o' r (by simpa using ho) (by simpa using hr)
      · intro i o' r ho hr
        cases i with
        | zero => simp at ho hr; subst ho; subst hr; exact n
        | succ i => exact t.no i o' r (by simpa using ho) (by simpa using hr)
      · intro i r hr
        cases i with
        | zero => simp at hr; subst hr; have := t.h0; simp only [List.getElem?_cons_succ]; rw [this, e4]
        | succ i => have := t.hn i r (by simpa using hr); simpa using this
      · intro i o' r ho hr
        cases i with
        | zero => simp at ho hr; subst ho; subst hr; have := t.t0; simp only [List.getElem?_cons_succ]; rw [this, e3, e1]
        | succ i => have := t.tn i o' r (by simpa using ho) (by simpa using hr); simpa using this
    simp only [tr] at h
    split at h
    · rename_i hw
      split at h
      · rename_i v h' ho
        split at h
        · rename_i l st1 ht
          simp only [Option.some.injEq, Prod.mk.injEq] at h
          obtain ⟨rfl, rfl⟩ := h
          exact cons ⟨true, v, st.τ, st.h, h'⟩ l _ rfl rfl rfl rfl (fun _ => ⟨hw, ho⟩) (fun x => by cases x) (tr_trace ht)
        · cases h
      · cases h
    · rename_i hw
      split at h
      · rename_i l st1 ht
        simp only [Option.some.injEq, Prod.mk.injEq] at h
        obtain ⟨rfl, rfl⟩ := h
        exact cons ⟨false, undef, st.τ, st.h, st.h⟩ l ⟨putD st.τ o.dst undef, st.h⟩ rfl rfl rfl rfl (fun x => by cases x) (fun _ => ⟨hw, rfl, rfl⟩) (tr_trace ht)
      · cases h
    · cases h
end Go.Ev
