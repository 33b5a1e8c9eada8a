/- Regions that draw their order: sound (2). -/
import Derived.Test.YtbnojnnmjdmmoaaGreatDoorEvQ
namespace Go.Ev
variable [Sym]

/-- All that was looked at. -/
structure Cx (P : Program) (T : TT) (call : CallF) (ops : Array Oper) (L : List Oper) (M : List Nat) (rs : List Rc) (ws : List (Nat × Hp)) (st st' : St) : Prop where
  hT : TTok T P
  hc : CallOk P call
  hL : L = ops.toList
  hM : M = masks L []
  hW : ws = wsOf L rs 0
  t : Trace T call ops L rs st st'
  s0 : ∀ (i : Nat) (o : Oper), L[i]? = some o → ∀ e ∈ o.after.toList, Region.binds .any e = true → e.on < i
  s2 : ∀ (i j : Nat) (o o' : Oper) (d : Tmp), L[i]? = some o → L[j]? = some o' → o'.dst = some d → i ≠ j →
    (d ∈ looks ops o → (M.getD i 0).testBit j = true ∨ (M.getD j 0).testBit i = true) ∧ o.dst ≠ some d
  ch : chain M ws = true
  dy : ∀ (j : Nat) (o : Oper) (r : Rc), L[j]? = some o → rs[j]? = some r → knd o r = 1 → ws = [] ∨ dynR T M ws (stages ws st'.h) j o r = true

omit [Sym] in
theorem stat_spec {ops : Array Oper} {L : List Oper} {M : List Nat} (h : stat ops L M = true) :
    (∀ (i : Nat) (o : Oper), L[i]? = some o → ∀ e ∈ o.after.toList, Region.binds .any e = true → e.on < i) ∧
    (∀ (i j : Nat) (o o' : Oper) (d : Tmp), L[i]? = some o → L[j]? = some o' → o'.dst = some d → i ≠ j →
      (d ∈ looks ops o → (M.getD i 0).testBit j = true ∨ (M.getD j 0).testBit i = true) ∧ o.dst ≠ some d) := by
  simp only [stat, Bool.and_eq_true] at h
  refine ⟨fun i o ho e he hb => ?_, fun i j o o' d ho ho' hd hne => ?_⟩
  · have := allI_spec h.1 i o ho
    have := List.all_eq_true.1 this e he
    rw [hb] at this
    simpa [Nat.blt_eq] using this
  · have h1 := allI_spec h.2 i o ho
    have h2 := allI_spec h1 j o' ho'
    simp only [hd, Nat.zero_add, Bool.or_eq_true, Bool.and_eq_true, Bool.not_eq_true'] at h2
    rcases h2 with h2 | h2
    · exact absurd (Nat.eq_of_beq_eq_true h2) hne
    · refine ⟨fun hm => ?_, fun e => ?_⟩
      · rcases h2.1 with h3 | h3
        · rw [eqT_mem hm] at h3; cases h3
        · exact h3
      · have h4 := h2.2
        rw [e] at h4
        simp at h4

section
variable {P : Program} {T : TT} {call : CallF} {ops : Array Oper} {L : List Oper} {M : List Nat} {rs : List Rc} {ws : List (Nat × Hp)} {st st' : St} (cx : Cx P T call ops L M rs ws st st')
include cx

theorem Cx.bitlt : ∀ (i j : Nat), i < L.length → (M.getD i 0).testBit j = true → j < i := by
  intro i
  induction i using Nat.strongRecOn with
  | _ i ih =>
    intro j hi hb
    have ho : L[i]? = some L[i] := List.getElem?_eq_getElem hi
    rw [cx.hM] at hb
    obtain ⟨e, he, hbd, hj⟩ := masks_bit ho (cx.s0 i _ ho) hb
    have hlt := cx.s0 i _ ho e he hbd
    rcases hj with hj | hj
    · omega
    · have := ih e.on hlt j (by omega) (by rw [cx.hM]; exact hj)
      omega

/-- What an operation leans on is done, if all that it names is. -/
theorem Cx.closure (lst : Nat → Prop) (hcl : ∀ (i : Nat) (o : Oper) (e : Edge), lst i → L[i]? = some o → e ∈ o.after.toList → Region.binds .any e = true → lst e.on) :
    ∀ (i : Nat) (o : Oper), L[i]? = some o → (∀ e ∈ o.after.toList, Region.binds .any e = true → lst e.on) → ∀ j, (M.getD i 0).testBit j = true → lst j := by
  intro i
  induction i using Nat.strongRecOn with
  | _ i ih =>
    intro o ho hp j hb
    rw [cx.hM] at hb
    obtain ⟨e, he, hbd, hj⟩ := masks_bit ho (cx.s0 i _ ho) hb
    have hlt := cx.s0 i _ ho e he hbd
    have hle := hp e he hbd
    rcases hj with hj | hj
    · exact hj ▸ hle
    · have hi : i < L.length := (List.getElem?_eq_some_iff.1 ho).1
      have hoe : L[e.on]? = some L[e.on] := List.getElem?_eq_getElem (by omega)
      exact ih e.on hlt _ hoe (fun e' he' hb' => hcl _ _ e' hle hoe he' hb') j (by rw [cx.hM]; exact hj)

theorem Cx.rsAt {i : Nat} {o : Oper} (ho : L[i]? = some o) : ∃ r, rs[i]? = some r := by
  have hi : i < rs.length := by rw [cx.t.len]; exact (List.getElem?_eq_some_iff.1 ho).1
  exact ⟨rs[i], List.getElem?_eq_getElem hi⟩
theorem Cx.LAt {i : Nat} {r : Rc} (hr : rs[i]? = some r) : ∃ o, L[i]? = some o := by
  have hi : i < L.length := by rw [← cx.t.len]; exact (List.getElem?_eq_some_iff.1 hr).1
  exact ⟨L[i], List.getElem?_eq_getElem hi⟩

/-- A slot ahead of an operation, in the order of the text. -/
theorem Cx.slot : ∀ (i : Nat) (r : Rc), rs[i]? = some r → ∀ (d : Tmp),
    (∀ (j : Nat) (o : Oper) (rj : Rc), j < i → L[j]? = some o → rs[j]? = some rj → o.dst = some d → r.τ.get d = some rj.v) ∧
    ((∀ (j : Nat) (o : Oper), j < i → L[j]? = some o → o.dst ≠ some d) → r.τ.get d = st.τ.get d) := by
  intro i
  induction i with
  | zero =>
    intro r hr d
    refine ⟨fun j o rj hj => by omega, fun _ => ?_⟩
    have := cx.t.t0
    rw [hr] at this
    simp only at this
    rw [this]
  | succ i ih =>
    intro r hr d
    have hi : i < rs.length := by have := (List.getElem?_eq_some_iff.1 hr).1; omega
    have hri : rs[i]? = some rs[i] := List.getElem?_eq_getElem hi
    obtain ⟨oi, hoi⟩ := cx.LAt hri
    have htn := cx.t.tn i oi _ hoi hri
    rw [hr] at htn
    simp only at htn
    obtain ⟨ih1, ih2⟩ := ih _ hri d
    have put : ∀ dd, oi.dst = some dd → r.τ.get d = if d = dd then some (rs[i]).v else (rs[i]).τ.get d := by
      intro dd e; rw [htn, e]; simp only [putD]; rw [Tr.get_set]
    refine ⟨fun j o rj hj ho hrj hd => ?_, fun hno => ?_⟩
    · rcases Nat.lt_or_ge j i with hlt | hge
      · have h1 := ih1 j o rj hlt ho hrj hd
        have hne : oi.dst ≠ some d := (cx.s2 i j oi o d hoi ho hd (by omega)).2
        cases hdi : oi.dst with
        | none => rw [htn, hdi]; exact h1
        | some dd =>
          rw [put dd hdi, if_neg (fun e => hne (by rw [hdi, e]))]
          exact h1
      · have : j = i := by omega
        subst this
        rw [hoi] at ho
        simp only [Option.some.injEq] at ho
        subst ho
        rw [hri] at hrj
        simp only [Option.some.injEq] at hrj
        rw [put d hd, if_pos rfl, hrj]
    · have hne : oi.dst ≠ some d := hno i oi (by omega) hoi
      have h2 := ih2 (fun j o hj ho => hno j o (by omega) ho)
      cases hdi : oi.dst with
      | none => rw [htn, hdi]; exact h2
      | some dd =>
        rw [put dd hdi, if_neg (fun e => hne (by rw [hdi, e]))]
        exact h2

/-- A slot behind all. -/
theorem Cx.slotEnd (d : Tmp) :
    (∀ (j : Nat) (o : Oper) (rj : Rc), L[j]? = some o → rs[j]? = some rj → o.dst = some d → st'.τ.get d = some rj.v) ∧
    ((∀ (j : Nat) (o : Oper), L[j]? = some o → o.dst ≠ some d) → st'.τ.get d = st.τ.get d) := by
  rcases Nat.eq_zero_or_pos rs.length with h0 | hpos
  · have hL0 : L.length = 0 := by rw [← cx.t.len]; exact h0
    refine ⟨fun j o rj ho => ?_, fun _ => ?_⟩
    · have := (List.getElem?_eq_some_iff.1 ho).1; omega
    · have := cx.t.t0
      rw [List.getElem?_eq_none (by omega)] at this
      simp only at this
      rw [this]
  · have hri : rs[rs.length - 1]? = some rs[rs.length - 1] := List.getElem?_eq_getElem (by omega)
    obtain ⟨oi, hoi⟩ := cx.LAt hri
    have htn := cx.t.tn _ oi _ hoi hri
    rw [List.getElem?_eq_none (by omega)] at htn
    simp only at htn
    obtain ⟨ih1, ih2⟩ := cx.slot _ _ hri d
    have put : ∀ dd, oi.dst = some dd → st'.τ.get d = if d = dd then some (rs[rs.length - 1]).v else (rs[rs.length - 1]).τ.get d := by
      intro dd e; rw [htn, e]; simp only [putD]; rw [Tr.get_set]
    refine ⟨fun j o rj ho hrj hd => ?_, fun hno => ?_⟩
    · have hjl : j < rs.length := (List.getElem?_eq_some_iff.1 hrj).1
      rcases Nat.lt_or_ge j (rs.length - 1) with hlt | hge
      · have h1 := ih1 j o rj hlt ho hrj hd
        have hne : oi.dst ≠ some d := (cx.s2 _ j oi o d hoi ho hd (by omega)).2
        cases hdi : oi.dst with
        | none => rw [htn, hdi]; exact h1
        | some dd =>
          rw [put dd hdi, if_neg (fun e => hne (by rw [hdi, e]))]
          exact h1
      · have : j = rs.length - 1 := by omega
        subst this
        rw [hoi] at ho
        simp only [Option.some.injEq] at ho
        subst ho
        rw [hri] at hrj
        simp only [Option.some.injEq] at hrj
        rw [put d hd, if_pos rfl, hrj]
    · have hne : oi.dst ≠ some d := hno _ oi hoi
      have h2 := ih2 (fun j o hj ho => hno j o ho)
      cases hdi : oi.dst with
      | none => rw [htn, hdi]; exact h2
      | some dd =>
        rw [put dd hdi, if_neg (fun e => hne (by rw [hdi, e]))]
        exact h2

/-- The heap ahead of an operation, in the order of the text. -/
def hAt (rs : List Rc) (last : Hp) (i : Nat) : Hp := match rs[i]? with | some r => r.h | none => last

theorem Cx.hstep {i : Nat} {r : Rc} (hr : rs[i]? = some r) : hAt rs st'.h (i + 1) = r.h' := cx.t.hn i r hr
omit cx in
omit [Sym] in
theorem hAt_of {i : Nat} {r : Rc} {last : Hp} (hr : rs[i]? = some r) : hAt rs last i = r.h := by simp [hAt, hr]

theorem Cx.next1 {i : Nat} {r : Rc} (hr : rs[i]? = some r) : r.h.next ≤ r.h'.next := by
  obtain ⟨o, ho⟩ := cx.LAt hr
  cases hrun : r.run with
  | true => exact aopC_next cx.hc (cx.t.yes i o r ho hr hrun).2
  | false => rw [(cx.t.no i o r ho hr hrun).2.2]; exact Nat.le_refl _

theorem Cx.nexts : ∀ (i j : Nat), i ≤ j → j ≤ rs.length → (hAt rs st'.h i).next ≤ (hAt rs st'.h j).next := by
  intro i j hij
  induction j with
  | zero => intro _; have : i = 0 := by omega
            subst this; exact Nat.le_refl _
  | succ j ih =>
    intro hj
    rcases Nat.lt_or_ge j i with h | h
    · have : i = j + 1 := by omega
      subst this; exact Nat.le_refl _
    · have hr : rs[j]? = some rs[j] := List.getElem?_eq_getElem (by omega)
      have h1 := ih h (by omega)
      rw [cx.hstep hr]
      rw [hAt_of (last := st'.h) hr] at h1
      exact Nat.le_trans h1 (cx.next1 hr)

def wpos (rs : List Rc) (ws : List (Nat × Hp)) (k : Nat) : Nat := match ws[k]? with | some (i, _) => i | none => rs.length
def XX (ws : List (Nat × Hp)) (last : Hp) (k : Nat) : Hp := match ws[k]? with | some (_, h) => h | none => last
def wlo (rs : List Rc) (ws : List (Nat × Hp)) : Nat → Nat
  | 0 => 0
  | k + 1 => wpos rs ws k + 1

theorem Cx.wAt {k i : Nat} {h : Hp} (hk : ws[k]? = some (i, h)) : ∃ o r, L[i]? = some o ∧ rs[i]? = some r ∧ knd o r = 3 ∧ h = r.h := by
  rw [cx.hW] at hk
  obtain ⟨j, o, r, h1, h2, h3, h4⟩ := (wsOf_spec L rs 0).1 k i h hk
  rw [Nat.zero_add] at h1
  subst h1
  exact ⟨o, r, h2, h3, h4⟩
theorem Cx.wInc {k k' i i' : Nat} {h h' : Hp} (hl : k < k') (hk : ws[k]? = some (i, h)) (hk' : ws[k']? = some (i', h')) : i < i' := by
  rw [cx.hW] at hk hk'
  exact (wsOf_spec L rs 0).2.1 k k' i i' h h' hl hk hk'
theorem Cx.wOf {i : Nat} {o : Oper} {r : Rc} (ho : L[i]? = some o) (hr : rs[i]? = some r) (hk : knd o r = 3) : ∃ k : Nat, ws[k]? = some (i, r.h) := by
  obtain ⟨k, hk'⟩ := (wsOf_spec L rs 0).2.2 i o r ho hr hk
  rw [Nat.zero_add] at hk'
  exact ⟨k, by rw [cx.hW]; exact hk'⟩

theorem Cx.XX_hAt (k : Nat) : XX ws st'.h k = hAt rs st'.h (wpos rs ws k) := by
  unfold XX wpos
  cases hk : ws[k]? with
  | none => simp [hAt]
  | some p =>
    obtain ⟨i, h⟩ := p
    obtain ⟨o, r, _, hr, _, e⟩ := cx.wAt hk
    simp [hAt, hr, e]
theorem Cx.wpos_le (k : Nat) : wpos rs ws k ≤ rs.length := by
  unfold wpos
  cases hk : ws[k]? with
  | none => exact Nat.le_refl _
  | some p =>
    obtain ⟨i, h⟩ := p
    obtain ⟨o, r, _, hr, _, _⟩ := cx.wAt hk
    have := (List.getElem?_eq_some_iff.1 hr).1
    simp only; omega

/-- Between two of the rest, none of it. -/
theorem Cx.noW {k i : Nat} {o : Oper} {r : Rc} (hlo : wlo rs ws k ≤ i) (hhi : i < wpos rs ws k) (hk : k ≤ ws.length) (ho : L[i]? = some o) (hr : rs[i]? = some r) : knd o r ≠ 3 := by
  intro h3
  obtain ⟨q, hq⟩ := cx.wOf ho hr h3
  have hql : q < ws.length := (List.getElem?_eq_some_iff.1 hq).1
  rcases Nat.lt_trichotomy q k with h | h | h
  · -- q < k: i is at most wpos (k-1)
    cases k with
    | zero => omega
    | succ k =>
      have hkk : ws[k]? = some ws[k] := List.getElem?_eq_getElem (by omega)
      simp only [wlo, wpos, hkk] at hlo
      rcases Nat.lt_or_ge q k with h' | h'
      · have := cx.wInc h' hq (show ws[k]? = some (ws[k].1, ws[k].2) from hkk); omega
      · have : q = k := by omega
        subst this
        rw [hkk] at hq
        simp only [Option.some.injEq] at hq
        rw [hq] at hlo
        simp only at hlo
        omega
  · subst h
    simp only [wpos, hq] at hhi
    omega
  · have hkk : ws[k]? = some ws[k] := List.getElem?_eq_getElem (by omega)
    have := cx.wInc h (show ws[k]? = some (ws[k].1, ws[k].2) from hkk) hq
    simp only [wpos, hkk] at hhi
    omega

omit cx in
omit [Sym] in
theorem kinds (o : Oper) (r : Rc) : knd o r = 0 ∨ knd o r = 1 ∨ knd o r = 2 ∨ knd o r = 3 := by
  unfold knd
  cases r.run with
  | false => exact .inl rfl
  | true =>
    simp only [cond_true]
    unfold kind
    split <;> first
      | exact .inl rfl
      | exact .inr (.inl rfl)
      | exact .inr (.inr (.inl rfl))
      | exact .inr (.inr (.inr rfl))
      | (cases Nat.beq r.h'.next r.h.next <;> simp only [cond_true, cond_false] <;> first | (split <;> simp; done) | (simp; done))
      | (split <;> simp)

/-- What an operation does to the heap, in the order of the text. -/
theorem Cx.eff {i : Nat} {o : Oper} {r : Rc} (ho : L[i]? = some o) (hr : rs[i]? = some r) (h3 : knd o r ≠ 3) : r.h' = r.h ∨ (knd o r = 2 ∧ ∃ blk, r.h' = r.h.new blk) := by
  cases hrun : r.run with
  | false => exact .inl (cx.t.no i o r ho hr hrun).2.2
  | true =>
    have hy := (cx.t.yes i o r ho hr hrun).2
    have hk : knd o r = kind o.op (Nat.beq r.h'.next r.h.next) r.v := by simp [knd, hrun]
    rcases kinds o r with h | h | h | h
    · rw [hk] at h; exact .inl (kind0 rfl h hy).1
    · rw [hk] at h; exact .inl (kind1 h hy).1
    · obtain ⟨blk, e, _⟩ := kind2 rfl (hk ▸ h) hy
      exact .inr ⟨h, blk, e⟩
    · exact absurd h h3

def WF (h : Hp) : Prop := ∀ n, h.next ≤ n → h.get n = none

/-- A stretch without the rest. -/
theorem Cx.seg {k : Nat} (hk : k ≤ ws.length) (hwf : WF (hAt rs st'.h (wlo rs ws k))) : ∀ (i : Nat), wlo rs ws k ≤ i → i ≤ wpos rs ws k →
    WF (hAt rs st'.h i) ∧
    (∀ (m : Nat) (b : Blk), (hAt rs st'.h i).get m = some b → (hAt rs st'.h (wlo rs ws k)).get m = some b ∨
      ∃ (j : Nat) (o : Oper) (r : Rc), wlo rs ws k ≤ j ∧ j < i ∧ L[j]? = some o ∧ rs[j]? = some r ∧ knd o r = 2 ∧ m = r.h.next ∧ r.h' = r.h.new b) ∧
    (∀ (j : Nat), wlo rs ws k ≤ j → j ≤ i → ∀ (m : Nat) (b : Blk), (hAt rs st'.h j).get m = some b → (hAt rs st'.h i).get m = some b) := by
  intro i
  induction i with
  | zero =>
    intro h0 _
    have e : wlo rs ws k = 0 := by omega
    rw [e] at hwf ⊢
    exact ⟨hwf, fun m b h => .inl h, fun j _ hj m b h => by
      have : j = 0 := by omega
      subst this; exact h⟩
  | succ i ih =>
    intro hlo hhi
    rcases Nat.lt_or_ge i (wlo rs ws k) with hlt | hge
    · have e : wlo rs ws k = i + 1 := by omega
      rw [e] at hwf ⊢
      exact ⟨hwf, fun m b h => .inl h, fun j hj hj2 m b h => by
        have : j = i + 1 := by omega
        subst this; exact h⟩
    · obtain ⟨h1, h2, h3⟩ := ih hge (by omega)
      have hil : i < rs.length := by have := cx.wpos_le k; omega
      have hr : rs[i]? = some rs[i] := List.getElem?_eq_getElem hil
      obtain ⟨o, ho⟩ := cx.LAt hr
      have hno := cx.noW hge (by omega) hk ho hr
      have hs := cx.hstep hr
      have hh := hAt_of (last := st'.h) hr
      rcases cx.eff ho hr hno with e | ⟨hk2, blk, e⟩
      · have e2 : hAt rs st'.h (i + 1) = hAt rs st'.h i := by rw [hs, hh, e]
        rw [e2]
        refine ⟨h1, fun m b hm => ?_, fun j hj hj2 m b hm => ?_⟩
        · rcases h2 m b hm with x | ⟨j, o', r', a1, a2, a3⟩
          · exact .inl x
          · exact .inr ⟨j, o', r', a1, by omega, a3⟩
        · rcases Nat.lt_or_ge j (i + 1) with x | x
          · exact h3 j hj (by omega) m b hm
          · have : j = i + 1 := by omega
            subst this; rw [e2] at hm; exact hm
      · have e2 : hAt rs st'.h (i + 1) = (hAt rs st'.h i).new blk := by rw [hs, hh, e]
        rw [e2]
        refine ⟨fun n hn => ?_, fun m b hm => ?_, fun j hj hj2 m b hm => ?_⟩
        · have hn' : (hAt rs st'.h i).next + 1 ≤ n := hn
          rw [Hp.get_new, if_neg (by omega)]
          exact h1 n (by omega)
        · rw [Hp.get_new] at hm
          split at hm
          · rename_i em
            simp only [Option.some.injEq] at hm
            subst hm
            exact .inr ⟨i, o, _, hge, by omega, ho, hr, hk2, by rw [em, hh], e⟩
          · rcases h2 m b hm with x | ⟨j, o', r', a1, a2, a3⟩
            · exact .inl x
            · exact .inr ⟨j, o', r', a1, by omega, a3⟩
        · rcases Nat.lt_or_ge j (i + 1) with x | x
          · have hm' := h3 j hj (by omega) m b hm
            rw [Hp.get_new, if_neg (fun em => by rw [em, h1 _ (Nat.le_refl _)] at hm'; cases hm')]
            exact hm'
          · have : j = i + 1 := by omega
            subst this; rw [e2] at hm; exact hm
end
end Go.Ev
