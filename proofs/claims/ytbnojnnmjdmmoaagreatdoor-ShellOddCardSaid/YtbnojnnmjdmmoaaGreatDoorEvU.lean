/- Regions that draw their order: sound (5). -/
import Derived.Test.YtbnojnnmjdmmoaaGreatDoorEvT
namespace Go.Ev
variable [Sym]

def lstOf (l : Array Bool) : Nat → Prop := fun i => l.getD i false = true
def unl (l : Array Bool) : Nat := (l.toList.filter fun b => !b).length

omit [Sym] in
theorem unl_set : ∀ (l : List Bool) (i : Nat), l[i]? = some false → ((l.set i true).filter fun b => !b).length + 1 = (l.filter fun b => !b).length
  | [], i, h => by simp at h
  | b :: l, 0, h => by simp at h; subst h; simp
  | b :: l, i + 1, h => by
    have := unl_set l i (by simpa using h)
    cases b <;> simp [this]

section
variable {P : Program} {T : TT} {call : CallF} {ops : Array Oper} {M : List Nat} {rs : List Rc} {ws : List (Nat × Hp)} {st st' : St}
  {ν0 : Nat → Slot} {h0 : Hp} {w0 : World} {lo N : Nat}

omit [Sym] in
theorem ready_spec {listed : Array Bool} {i : Nat} (h : i ∈ Region.ready .any ops listed) :
    ∃ o, ops.toList[i]? = some o ∧ listed.getD i true = false ∧ ∀ e ∈ o.after.toList, Region.binds .any e = true → lstOf listed e.on := by
  simp only [Region.ready, List.mem_filter, List.mem_range, Bool.and_eq_true, Bool.not_eq_true'] at h
  obtain ⟨h1, h2, h3⟩ := h
  have ho : ops[i]? = some ops[i] := Array.getElem?_eq_getElem h1
  refine ⟨ops[i], by simp, h2, fun e he hb => ?_⟩
  rw [ho] at h3
  simp only [Option.map_some, Option.getD_some] at h3
  have := Array.all_eq_true_iff_forall_mem.1 h3 e (by simpa using he)
  rw [hb] at this
  simp [lstOf] at this ⊢
  exact this

omit [Sym] in
theorem all_listed (hs0 : ∀ (i : Nat) (o : Oper), ops.toList[i]? = some o → ∀ e ∈ o.after.toList, Region.binds .any e = true → e.on < i) {listed : Array Bool} (hsz : listed.size = ops.size)
    (hr : Region.ready .any ops listed = []) : ∀ i, i < ops.size → lstOf listed i := by
  intro i
  induction i using Nat.strongRecOn with
  | _ i ih =>
    intro hi
    cases hb : listed.getD i false with
    | true => exact hb
    | false =>
      exfalso
      have hm : i ∈ Region.ready .any ops listed := by
        simp only [Region.ready, List.mem_filter, List.mem_range, Bool.and_eq_true, Bool.not_eq_true']
        have hi' : i < listed.size := by omega
        refine ⟨hi, ?_, ?_⟩
        · simp [Array.getD, hi'] at hb ⊢; exact hb
        · have ho : ops[i]? = some ops[i] := Array.getElem?_eq_getElem hi
          rw [ho]
          simp only [Option.map_some, Option.getD_some]
          rw [Array.all_eq_true_iff_forall_mem]
          intro e he
          cases hbd : Region.binds .any e with
          | false => rfl
          | true =>
            have hlt := hs0 i ops[i] (by simp) e (by simpa using he) hbd
            have := ih e.on hlt (by omega)
            simpa [lstOf] using this
      rw [hr] at hm
      cases hm

omit [Sym] in
theorem countB_le {i : Nat} : ∀ (ws : List (Nat × Hp)), countB ws i ≤ ws.length
  | [] => Nat.le_refl _
  | (w, h) :: r => by
    simp only [countB]
    have := countB_le (i := i) r
    cases Nat.blt w i <;> simp <;> omega
omit [Sym] in
theorem countB_prop {i : Nat} : ∀ {ws : List (Nat × Hp)}, (∀ (k k' a b : Nat) (h h' : Hp), k < k' → ws[k]? = some (a, h) → ws[k']? = some (b, h') → a < b) →
    ∀ (q w : Nat) (h : Hp), ws[q]? = some (w, h) → (q < countB ws i ↔ w < i)
  | [], _, q, w, h, hq => by simp at hq
  | (w0, hw0) :: r, hs, q, w, h, hq => by
    have hs' : ∀ (k k' a b : Nat) (h h' : Hp), k < k' → r[k]? = some (a, h) → r[k']? = some (b, h') → a < b := fun k k' a b h h' hl h1 h2 => hs (k + 1) (k' + 1) a b h h' (by omega) (by simpa using h1) (by simpa using h2)
    have ih := countB_prop (i := i) hs'
    simp only [countB]
    cases hb : Nat.blt w0 i with
    | true =>
      have hw : w0 < i := by simpa [Nat.blt_eq] using hb
      simp only [cond_true]
      cases q with
      | zero =>
        have : w0 = w := by simp at hq; exact hq.1
        subst this
        exact ⟨fun _ => hw, fun _ => by omega⟩
      | succ q =>
        have := ih q w h (by simpa using hq)
        rw [← this]; omega
    | false =>
      have hw : ¬ w0 < i := fun x => by rw [← Nat.blt_eq] at x; rw [x] at hb; cases hb
      simp only [cond_false]
      have hz : countB r i = 0 := by
        rcases Nat.eq_zero_or_pos (countB r i) with e | e
        · exact e
        · exfalso
          have hl := countB_le (i := i) r
          have h0 : r[0]? = some r[0] := List.getElem?_eq_getElem (by omega)
          have := (ih 0 r[0].1 r[0].2 h0).1 e
          have := hs 0 1 w0 r[0].1 hw0 r[0].2 (by omega) rfl (show ((w0, hw0) :: r)[0 + 1]? = some (r[0].1, r[0].2) by rw [List.getElem?_cons_succ]; exact h0)
          omega
      rw [hz]
      constructor
      · intro x; omega
      · intro x
        cases q with
        | zero =>
          have : w0 = w := by simp at hq; exact hq.1
          omega
        | succ q =>
          have := hs 0 (q + 1) w0 w hw0 h (by omega) rfl hq
          omega

/-- A world with more blocks. -/
theorem Inv.more {lst : Nat → Prop} {k : Nat} {ν : Nat → Slot} {a : Act} {w w' : World} (I : Inv P T call ops ops.toList M rs ws st st' ν0 h0 w0 lo N lst k ν a w)
    (hf : ∀ b, b < w.heap.size → w'.heap[b]? = w.heap[b]?) (hs : w.heap.size ≤ w'.heap.size) (h1 : w'.os = w.os) (h2 : w'.tape = w.tape) (h3 : w'.output = w.output) :
    Inv P T call ops ops.toList M rs ws st st' ν0 h0 w0 lo N lst k ν a w' := by
  refine ⟨I.room, I.defers, I.kle, I.kk, I.closed, I.env1, I.env2, ?_, ?_, I.un, ?_, I.prom, I.fresh, I.ext⟩
  · refine ⟨fun n cs E ro b s hg hn => ?_, I.sat.inj, fun n b s hn => Nat.lt_of_lt_of_le (I.sat.bound n b s hn) hs, I.sat.nodead, I.sat.wf⟩
    obtain ⟨c, fr, g1, g2⟩ := I.sat.cells n cs E ro b s hg hn
    exact ⟨c, fr, by rw [hf b (I.sat.bound n b s hn)]; exact g1, g2⟩
  · refine ⟨I.post.le, I.post.hi, fun b hb hno => ?_, I.post.dom, I.post.keep, Nat.le_trans I.post.size hs, h1.trans I.post.os, h2.trans I.post.tape, h3.trans I.post.output⟩
    rw [hf b (Nat.lt_of_lt_of_le hb I.post.size)]
    exact I.post.frame b hb hno
  · intro i o r blk hl ho hr hk hlt hb
    obtain ⟨g1, g2⟩ := I.held i o r blk hl ho hr hk hlt hb
    exact ⟨g1.mono (Le.refl ν) rfl (fun b s e => hf b (I.sat.bound _ b s e)), g2⟩

/-- What is read, with so much of the rest done. -/
theorem Cx.reads {lst : Nat → Prop} {k : Nat} {ν : Nat → Slot} {a : Act} {w : World} (cx : Cx P T call ops ops.toList M rs ws st st') (I : Inv P T call ops ops.toList M rs ws st st' ν0 h0 w0 lo N lst k ν a w) {i : Nat} {o : Oper} {r : Rc} (ho : ops.toList[i]? = some o) (hr : rs[i]? = some r) (hni : ¬ lst i)
    (hp : ∀ e ∈ o.after.toList, Region.binds .any e = true → lst e.on) (hk : knd o r = 1) {t : TypeId} {x : Operand} {p : Value} (hop : o.op = .load t x) (hx : aev r.τ x = some p) (hl : aload T t r.h p = some r.v) :
    aload T t (XX ws st'.h k) p = some r.v := by
  have hil : i < rs.length := (List.getElem?_eq_some_iff.1 hr).1
  have hsorted : ∀ (k k' a b : Nat) (h h' : Hp), k < k' → ws[k]? = some (a, h) → ws[k']? = some (b, h') → a < b := fun k k' a b h h' hl h1 h2 => cx.wInc hl h1 h2
  by_cases hkk : k = countB ws i
  · have hprop := countB_prop (i := i) hsorted
    have hlo : wlo rs ws k ≤ i := by
      cases k with
      | zero => exact Nat.zero_le _
      | succ k =>
        have hkl : k < ws.length := by have := I.kle; omega
        have hkw : ws[k]? = some ws[k] := List.getElem?_eq_getElem hkl
        have := (hprop k ws[k].1 ws[k].2 hkw).1 (by omega)
        simp only [wlo, wpos, hkw]
        omega
    have hhi : i ≤ wpos rs ws k := by
      unfold wpos
      cases hkw : ws[k]? with
      | none => simp only; omega
      | some q =>
        obtain ⟨wi, hh⟩ := q
        have := hprop k wi hh hkw
        simp only
        omega
    have hext := I.ext i hlo hhi
    rw [hAt_of hr] at hext
    unfold aload at hl ⊢
    split at hl
    · rename_i n off
      split at hl
      · rename_i ti hti
        cases hag : isAggD ti.desc with
        | true =>
          rw [hag] at hl
          simp only [cond_true] at hl ⊢
          have : ldRow (XX ws st'.h k) n off ti.size = ldRow r.h n off ti.size := by
            unfold ldRow at hl ⊢
            cases hg : r.h.get n with
            | none => rw [hg] at hl; simp at hl
            | some b => rw [hext n b hg]
          rw [this]; exact hl
        | false =>
          rw [hag] at hl
          simp only [cond_false] at hl ⊢
          unfold ldAt at hl ⊢
          cases hg : r.h.get n with
          | none => rw [hg] at hl; simp at hl
          | some b => rw [hg] at hl; rw [hext n b hg]; exact hl
      · cases hl
    · cases hl
  · rcases cx.dy i o r ho hr hk with e | hd
    · subst e
      have hk0 : k ≤ 0 := I.kle
      have hk1 : k = 0 := by omega
      subst hk1
      exact absurd rfl hkk
    · unfold dynR at hd
      rw [hop] at hd
      simp only [hx] at hd
      have hst : (stages ws st'.h)[k]? = some (XX ws st'.h k) := by
        unfold stages XX
        rcases Nat.lt_or_ge k ws.length with hlt | hge
        · rw [List.getElem?_append_left (by simpa using hlt)]
          have : ws[k]? = some ws[k] := List.getElem?_eq_getElem hlt
          simp [this]
        · have hke : k = ws.length := by have := I.kle; omega
          rw [List.getElem?_append_right (by simpa using hge)]
          simp [hke]
      have := allI_spec hd k _ hst
      rw [Nat.zero_add] at this
      have hb1 : Nat.beq k (countB ws i) = false := beqN hkk
      have hm : may M i k ws 0 = true := by
        refine may_spec fun q wi hh hq => ?_
        rw [Nat.zero_add]
        obtain ⟨ow, rw', how, hrw, _, _⟩ := cx.wAt hq
        refine ⟨fun hlt => ?_, fun hge => ?_⟩
        · cases hb : (M.getD wi 0).testBit i with
          | false => rfl
          | true =>
            have hlw := (I.kk q wi hh hq).2 hlt
            exact absurd (cx.closure lst I.closed wi ow how (fun e he hbd => I.closed wi ow e hlw how he hbd) i hb) hni
        · cases hb : (M.getD i 0).testBit wi with
          | false => rfl
          | true =>
            have := (I.kk q wi hh hq).1 (cx.closure lst I.closed i o ho hp wi hb)
            omega
      rw [hb1, hm] at this
      simp only [Bool.not_true, Bool.or_false, Bool.false_or] at this
      split at this
      · rename_i v hv
        rw [hv, veqA_eq this]
      · cases this

theorem Cx.any {k0 : Nat} (cx : Cx P T call ops ops.toList M rs ws st st') (s0 : Sat ν0 h0 w0) (g0 : Gl ν0 h0 w0) (hlo : lo ≤ (hAt rs st'.h 0).next) (hroom : roomFor N ops.toList = true) {Q : Exit → Act → World → Prop}
    (hfin : ∀ (lst : Nat → Prop) (k : Nat) (ν : Nat → Slot) (a : Act) (w : World), Inv P T call ops ops.toList M rs ws st st' ν0 h0 w0 lo N lst k ν a w → (∀ i, i < ops.size → lst i) → Q .normal a w) :
    ∀ (fuel : Nat) (listed : Array Bool) (k : Nat) (ν : Nat → Slot) (a : Act) (w : World), listed.size = ops.size → unl listed ≤ fuel → Inv P T call ops ops.toList M rs ws st st' ν0 h0 w0 lo N (lstOf listed) k ν a w → k0 = k0 →
      wpAny P .any ops Q fuel listed a w := by
  intro fuel
  induction fuel with
  | zero =>
    intro listed k ν a w hsz hu I _
    have hall : ∀ i, i < ops.size → lstOf listed i := by
      intro i hi
      have hi' : i < listed.size := by omega
      cases hb : listed.getD i false with
      | true => exact hb
      | false =>
        exfalso
        have hm : false ∈ listed.toList.filter fun b => !b := by
          rw [List.mem_filter]
          refine ⟨?_, rfl⟩
          simp [Array.getD, hi'] at hb
          rw [← hb]
          simp
        have := List.length_pos_of_mem hm
        unfold unl at hu
        omega
    refine ⟨?_, hfin _ k ν a w I hall⟩
    rw [List.eq_nil_iff_forall_not_mem]
    intro i hi
    obtain ⟨o, ho, hl, _⟩ := ready_spec hi
    have hil : i < ops.size := by have := (List.getElem?_eq_some_iff.1 ho).1; simpa using this
    have := hall i hil
    have hi' : i < listed.size := by omega
    simp [lstOf, Array.getD, hi'] at this hl
    rw [this] at hl; cases hl
  | succ fuel ih =>
    intro listed k ν a w hsz hu I _
    refine ⟨fun hr => hfin _ k ν a w I (all_listed cx.s0 hsz hr), fun i hi => ?_⟩
    obtain ⟨o, ho, hl, hp⟩ := ready_spec hi
    have hil : i < ops.size := by have := (List.getElem?_eq_some_iff.1 ho).1; simpa using this
    have hi' : i < listed.size := by omega
    obtain ⟨r, hr⟩ := cx.rsAt ho
    have hlf : listed[i]? = some false := by simp [Array.getD, hi'] at hl; simp [hi', hl]
    have hni : ¬ lstOf listed i := by simp [lstOf, Array.getD, hi'] at hl ⊢; exact hl
    have hsz' : (listed.setIfInBounds i true).size = ops.size := by simp [hsz]
    have hu' : unl (listed.setIfInBounds i true) ≤ fuel := by
      have := unl_set listed.toList i (by simpa using hlf)
      unfold unl at hu ⊢
      rw [Array.toList_setIfInBounds]
      omega
    have hlst : lstOf (listed.setIfInBounds i true) = Lst' (lstOf listed) i := by
      funext j
      unfold Lst' lstOf
      by_cases e : j = i
      · subst e; simp [Array.getD, hi']
      · simp only [e, or_false]
        have : (listed.setIfInBounds i true).getD j false = listed.getD j false := by
          simp only [Array.getD_eq_getD_getElem?]
          rw [Array.getElem?_setIfInBounds_ne (fun x => e x.symm)]
        rw [this]
    have hrm : ∀ t, o.dst = some t → t < N := by
      intro t ht
      have := List.all_eq_true.1 hroom o (List.mem_of_getElem? ho)
      rw [ht] at this
      simpa [Nat.blt_eq] using this
    have hoa : ops[i]? = some o := by simpa using ho
    unfold wpOp
    rw [hoa]
    simp only
    have henv := cx.envAt I ho hr hni hp
    cases hrun : r.run with
    | false =>
      obtain ⟨hw, hv, hh⟩ := cx.t.no i o r ho hr hrun
      rw [awant_agree (cut_agree r.τ (looks ops o))] at hw
      rw [awant_sound henv hw]
      simp only [Bool.false_eq_true, if_false]
      have I' := cx.step0 I ho hr hni hrm hp (.inl (by simp [knd, hrun])) (v' := undef) (by rw [hv]; exact .grd _ rfl)
      rw [← hlst] at I'
      exact ih _ k ν _ w hsz' hu' I' rfl
    | true =>
      obtain ⟨hw, hy⟩ := cx.t.yes i o r ho hr hrun
      rw [awant_agree (cut_agree r.τ (looks ops o))] at hw
      rw [awant_sound henv hw]
      simp only [if_true]
      left
      have hag : Agree r.τ (cut r.τ (looks ops o)) (opTmps o.op) := (cut_agree r.τ (looks ops o)).sub (fun t ht => by simp [looks, ht])
      have hy' := hy
      rw [aopC_agree hag] at hy'
      have hkd : knd o r = kind o.op (Nat.beq r.h'.next r.h.next) r.v := by simp [knd, hrun]
      rcases kinds o r with hk | hk | hk | hk
      · -- it computes
        obtain ⟨_, hfree⟩ := kind0 (b := Nat.beq r.h'.next r.h.next) rfl (hkd ▸ hk) hy'
        have hx := hfree ⟨.emp, 0⟩
        have hsat0 : Sat ν (⟨.emp, 0⟩ : Hp) w := by
          refine ⟨fun n cs E ro b s hg _ => ?_, I.sat.inj, I.sat.bound, fun n hn => ?_, fun n _ => ?_⟩
          · simp [Hp.get, Tr.get_emp] at hg
          · simp [Hp.has, Hp.get, Tr.get_emp] at hn
          · simp [Hp.get, Tr.get_emp]
        refine op_wp (aopC_sound cx.hT cx.hc hsat0 ((g0.pc I.post).less fun n hn => by simp [Hp.has, Hp.get, Tr.get_emp] at hn) henv hx (fun n h1 h2 => by simp at h1 h2)) fun v' w' ν' hv hs hq => ?_
        have hν : ν' = ν := by
          funext n
          cases hn : ν n with
          | un => exact hq.hi n (.inr (Nat.zero_le _)) hn
          | dead =>
            rcases hq.le n (by rw [hn]; exact fun x => by cases x) with e | ⟨_, e⟩
            · rw [e, hn]
            · simp [Hp.has, Hp.get, Tr.get_emp] at e
          | live b s =>
            rcases hq.le n (by rw [hn]; exact fun x => by cases x) with e | ⟨_, e⟩
            · rw [e, hn]
            · simp [Hp.has, Hp.get, Tr.get_emp] at e
        subst hν
        have I1 := I.more (fun b hb => hq.frame b hb (fun m s hm => by simp [Hp.has, Hp.get, Tr.get_emp] at hm)) hq.size hq.os hq.tape hq.output
        have I' := cx.step0 I1 ho hr hni hrm hp (.inl hk) hv
        rw [← hlst] at I'
        exact ih _ k ν' _ w' hsz' hu' I' rfl
      · -- it reads
        obtain ⟨_, t, x, p, hop, hx, hl⟩ := kind1 (hkd ▸ hk) hy
        have hl' := cx.reads I ho hr hni hp hk hop hx hl
        have hx' : aev (cut r.τ (looks ops o)) x = some p := by
          rw [← hx]; symm
          refine aev_agree (hag.sub fun t ht => ?_)
          rw [hop, opTmps_eq]
          exact tmpsOf_mem (by simp [Op.operands]) t ht
        obtain ⟨ad, u, e1, e2, e3⟩ := loadVar_sound cx.hT I.sat hl' (aev_sound henv hx')
        have I' := cx.step0 I ho hr hni hrm hp (.inr hk) e3
        rw [← hlst] at I'
        have := ih _ k ν _ w hsz' hu' I' rfl
        have hrun2 : (execOp a.eval o).run P w = .ok (.value u) w := by
          unfold execOp
          rw [hop]
          simp only [e1, Instr.loadAt, Instr.sureAddr, Sem.run_bind, Sem.run_pure, Result.andThen_ok, e2]
        unfold Oper.wp
        rw [hrun2]
        exact this
      · -- it lays a block
        obtain ⟨blk, hblk, hsh, hfree⟩ := kind2 (b := Nat.beq r.h'.next r.h.next) rfl (hkd ▸ hk) hy'
        have hx := hfree .emp
        have hun : ν r.h.next = .un := I.un i o r hni ho hr hk
        have hsat0 : Sat ν (⟨.emp, r.h.next⟩ : Hp) w := by
          refine ⟨fun n cs E ro b s hg _ => ?_, I.sat.inj, I.sat.bound, fun n hn => ?_, fun n _ => ?_⟩
          · simp [Hp.get, Tr.get_emp] at hg
          · simp [Hp.has, Hp.get, Tr.get_emp] at hn
          · simp [Hp.get, Tr.get_emp]
        refine op_wp (aopC_sound cx.hT cx.hc hsat0 ((g0.pc I.post).less fun n hn => by simp [Hp.has, Hp.get, Tr.get_emp] at hn) henv hx (fun n h1 h2 => by
          have : ((⟨.emp, r.h.next⟩ : Hp).new blk).next = r.h.next + 1 := rfl
          rw [this] at h2
          have : n = r.h.next := by simp at h1; omega
          rw [this]; exact hun)) fun v' w' ν' hv hs hq => ?_
        have I' := cx.step2 I ho hr hni hrm hp hk hblk hv hs hq hsh hlo
        rw [← hlst] at I'
        exact ih _ k ν' _ w' hsz' hu' I' rfl
      · -- one of the rest
        have hw' := cx.isNext I ho hr hni hp hk
        have hX : XX ws st'.h k = r.h := by simp [XX, hw']
        have hsX := I.sat
        rw [hX] at hsX
        refine op_wp (aopC_sound cx.hT cx.hc hsX (hX ▸ g0.pc I.post) henv hy' (cx.stepFresh I ho hr hk hw')) fun v' w' ν' hv hs hq => ?_
        have I' := cx.step3 s0 I ho hr hni hrm hp hk hw' hv hs hq hlo
        rw [← hlst] at I'
        exact ih _ (k + 1) ν' _ w' hsz' hu' I' rfl
end
end Go.Ev
