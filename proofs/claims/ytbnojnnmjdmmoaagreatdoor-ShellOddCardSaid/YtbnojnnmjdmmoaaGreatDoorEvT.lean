/- Regions that draw their order: sound (4). -/
import Derived.Test.YtbnojnnmjdmmoaaGreatDoorEvS
namespace Go.Ev
variable [Sym]

section
variable {P : Program} {T : TT} {call : CallF} {ops : Array Oper} {L : List Oper} {M : List Nat} {rs : List Rc} {ws : List (Nat × Hp)} {st st' : St}
  {ν0 : Nat → Slot} {h0 : Hp} {w0 : World} {lo N : Nat} {lst : Nat → Prop} {k : Nat} {ν : Nat → Slot} {a : Act} {w : World}

/-- A block that is laid has a name below what comes then. -/
theorem Cx.below (cx : Cx P T call ops L M rs ws st st') {p : Nat} {op : Oper} {rp : Rc} (hop : L[p]? = some op) (hrp : rs[p]? = some rp) (hk2 : knd op rp = 2) {q : Nat} (hpq : p < q) (hq : q ≤ rs.length) :
    rp.h.next < (hAt rs st'.h q).next := by
  have hno : knd op rp ≠ 3 := by omega
  rcases cx.eff hop hrp hno with e | ⟨_, b, e⟩
  · exfalso
    have hrun : rp.run = true := by
      cases hx : rp.run with
      | true => rfl
      | false => simp [knd, hx] at hk2
    have hy := (cx.t.yes p op rp hop hrp hrun).2
    obtain ⟨b, e', _⟩ := kind2 (b := Nat.beq rp.h'.next rp.h.next) rfl (by simpa [knd, hrun] using hk2) hy
    rw [e] at e'
    have := congrArg Hp.next e'
    simp [Hp.new] at this
  · have h1 := cx.hstep hrp
    have h2 := cx.nexts (p + 1) q (by omega) hq
    rw [h1, e] at h2
    have : (rp.h.new b).next = rp.h.next + 1 := rfl
    omega
theorem Cx.above (cx : Cx P T call ops L M rs ws st st') {p : Nat} {rp : Rc} (hrp : rs[p]? = some rp) {q : Nat} (hqp : q ≤ p) : (hAt rs st'.h q).next ≤ rp.h.next := by
  have hpl : p < rs.length := (List.getElem?_eq_some_iff.1 hrp).1
  have := cx.nexts q p hqp (by omega)
  rwa [hAt_of hrp] at this
theorem Cx.top (cx : Cx P T call ops L M rs ws st st') {q : Nat} (hq : q ≤ rs.length) : (hAt rs st'.h q).next ≤ st'.h.next := by
  have := cx.nexts q rs.length hq (Nat.le_refl _)
  have h3 : hAt rs st'.h rs.length = st'.h := by simp [hAt]
  rwa [h3] at this

/-- One of the rest that may come is the next one. -/
theorem Cx.isNext (cx : Cx P T call ops L M rs ws st st') (I : Inv P T call ops L M rs ws st st' ν0 h0 w0 lo N lst k ν a w) {i : Nat} {o : Oper} {r : Rc} (ho : L[i]? = some o) (hr : rs[i]? = some r) (hni : ¬ lst i)
    (hp : ∀ e ∈ o.after.toList, Region.binds .any e = true → lst e.on) (hk : knd o r = 3) : ws[k]? = some (i, r.h) := by
  obtain ⟨q, hq⟩ := cx.wOf ho hr hk
  have h1 : ¬ q < k := fun x => hni ((I.kk q i r.h hq).2 x)
  rcases Nat.lt_or_ge k q with h2 | h2
  · have hql : q < ws.length := (List.getElem?_eq_some_iff.1 hq).1
    have hprev : ws[q - 1]? = some ws[q - 1] := List.getElem?_eq_getElem (by omega)
    have hb := chain_spec cx.ch (q - 1) ws[q - 1].1 i ws[q - 1].2 r.h hprev (by rw [show q - 1 + 1 = q by omega]; exact hq)
    have hl := cx.closure lst I.closed i o ho hp _ hb
    have := (I.kk (q - 1) _ _ hprev).1 hl
    omega
  · have : q = k := by omega
    subst this; exact hq

theorem Cx.stepFresh (cx : Cx P T call ops L M rs ws st st') (I : Inv P T call ops L M rs ws st st' ν0 h0 w0 lo N lst k ν a w) {i : Nat} {o : Oper} {r : Rc} (ho : L[i]? = some o) (hr : rs[i]? = some r) (hk : knd o r = 3) (hw : ws[k]? = some (i, r.h)) : Fresh ν r.h r.h' := by
  intro m hm1 hm2
  have hil : i < rs.length := (List.getElem?_eq_some_iff.1 hr).1
  have hX : XX ws st'.h k = r.h := by simp [XX, hw]
  refine I.fresh m (by rw [hX]; exact hm1) ?_ ?_
  · have := cx.top (q := i + 1) (by omega)
    rw [cx.hstep hr] at this
    omega
  · intro j o' r' hj ho' hr' h2 e
    have hji : j ≠ i := by
      intro e'
      subst e'
      rw [ho] at ho'; rw [hr] at hr'
      simp only [Option.some.injEq] at ho' hr'
      subst ho'; subst hr'
      omega
    rcases Nat.lt_or_ge j i with hl | hl
    · have := cx.below ho' hr' h2 hl (by omega)
      rw [hAt_of hr] at this
      omega
    · have := cx.above hr' (q := i + 1) (by omega)
      rw [cx.hstep hr] at this
      omega

/-- One of the rest. -/
theorem Cx.step3 (cx : Cx P T call ops L M rs ws st st') (s0 : Sat ν0 h0 w0) (I : Inv P T call ops L M rs ws st st' ν0 h0 w0 lo N lst k ν a w) {i : Nat} {o : Oper} {r : Rc} (ho : L[i]? = some o) (hr : rs[i]? = some r) (hni : ¬ lst i) (hroom : ∀ t, o.dst = some t → t < N)
    (hp : ∀ e ∈ o.after.toList, Region.binds .any e = true → lst e.on) (hk : knd o r = 3) (hw : ws[k]? = some (i, r.h)) {ν' : Nat → Slot} {w' : World} {v' : Value} (hv : VR ν' r.v v')
    (hs : Sat ν' r.h' w') (hq : Post ν r.h w ν' r.h' w') (hlo : lo ≤ (hAt rs st'.h 0).next) :
    Inv P T call ops L M rs ws st st' ν0 h0 w0 lo N (Lst' lst i) (k + 1) ν' (a.put o.dst v') w' := by
  have hil : i < rs.length := (List.getElem?_eq_some_iff.1 hr).1
  have hkl : k < ws.length := (List.getElem?_eq_some_iff.1 hw).1
  have hX : XX ws st'.h k = r.h := by simp [XX, hw]
  have hwp : wpos rs ws k = i := by simp [wpos, hw]
  have hwl : wlo rs ws (k + 1) = i + 1 := by simp [wlo, hwp]
  have hat1 : hAt rs st'.h (i + 1) = r.h' := cx.hstep hr
  obtain ⟨e1, e2⟩ := cx.envPut I ho hr hni hroom hq.Le hv
  have hpl := cx.wpos_le (k + 1)
  have hlow : i + 1 ≤ wpos rs ws (k + 1) := by
    unfold wpos
    cases hq' : ws[k + 1]? with
    | none => simp only; omega
    | some p =>
      obtain ⟨j, hh⟩ := p
      have := cx.wInc (by omega) hw hq'
      simp only; omega
  have hsg := fun j h1 h2 => cx.seg (k := k + 1) (by omega) (by rw [hwl, hat1]; exact hs.wf) j h1 h2
  have hXs : XX ws st'.h (k + 1) = hAt rs st'.h (wpos rs ws (k + 1)) := cx.XX_hAt (k + 1)
  obtain ⟨sg1, sg2, sg3⟩ := hsg (wpos rs ws (k + 1)) (by omega) (Nat.le_refl _)
  rw [← hXs] at sg1 sg2 sg3
  rw [hwl] at sg2 sg3
  rw [hat1] at sg2
  have hext : ∀ (m : Nat) (b : Blk), r.h'.get m = some b → (XX ws st'.h (k + 1)).get m = some b := by
    intro m b hb
    have := sg3 (i + 1) (Nat.le_refl _) hlow m b
    rw [hat1] at this
    exact this hb
  have hnx : r.h'.next ≤ (XX ws st'.h (k + 1)).next := by
    rw [hXs, ← hat1]; exact cx.nexts _ _ hlow hpl
  have hrn : r.h.next ≤ r.h'.next := hq.next
  have ne : ∀ (j : Nat) (o' : Oper) (r' : Rc), L[j]? = some o' → rs[j]? = some r' → knd o' r' = 2 → j ≠ i := by
    intro j o' r' ho' hr' h2 e
    subst e
    rw [ho] at ho'; rw [hr] at hr'
    simp only [Option.some.injEq] at ho' hr'
    subst ho'; subst hr'
    omega
  have nmLo : ∀ (j : Nat) (o' : Oper) (r' : Rc), L[j]? = some o' → rs[j]? = some r' → knd o' r' = 2 → j < i → r'.h.next < r.h.next := by
    intro j o' r' ho' hr' h2 hl
    have := cx.below ho' hr' h2 hl (by omega)
    rwa [hAt_of hr] at this
  have nmHi : ∀ (j : Nat) (r' : Rc), rs[j]? = some r' → i < j → r.h'.next ≤ r'.h.next := by
    intro j r' hr' hl
    have := cx.above hr' (q := i + 1) (by omega)
    rwa [hat1] at this
  have hwfX : ∀ m, r.h.next ≤ m → r.h.get m = none := fun m hm => by have := I.sat.wf m; rw [hX] at this; exact this hm
  -- a block of another that is laid already
  have keepLive : ∀ (j : Nat) (o' : Oper) (r' : Rc) (blk : Blk), lst j → L[j]? = some o' → rs[j]? = some r' → knd o' r' = 2 → i < j → r'.h' = r'.h.new blk →
      Held ν' w' r'.h.next blk ∧ ν' r'.h.next = ν r'.h.next ∧ (∃ b s, ν r'.h.next = .live b s) ∧ (∀ b s, ν r'.h.next = .live b s → w0.heap.size ≤ b) := by
    intro j o' r' blk hj ho' hr' h2 hl hb
    obtain ⟨g1, g2⟩ := I.held j o' r' blk hj ho' hr' h2 (by rw [hwp]; exact hl) hb
    have hlv : ∃ b s, ν r'.h.next = .live b s := by
      cases blk with
      | cells cs E ro => obtain ⟨b, c, _, x, _⟩ := g1; exact ⟨b, c.size, x⟩
      | map es => exact g1
    have hno : ¬ r.h.has r'.h.next := by
      have := nmHi j r' hr' hl
      simp [Hp.has, hwfX _ (Nat.le_trans hrn this)]
    have hsm : ν' r'.h.next = ν r'.h.next := by
      obtain ⟨b, s, x⟩ := hlv
      rcases hq.le r'.h.next (by rw [x]; exact fun y => by cases y) with e | ⟨_, e⟩
      · exact e
      · exact absurd e hno
    refine ⟨g1.mono hq.Le hsm (fun b s e => hq.frame b (by have := I.sat.bound _ b s e; exact this) (fun m s' hm e' => ?_)), hsm, hlv, g2⟩
    have := I.sat.inj _ _ b s' s e' e
    exact hno (this ▸ hm)
  have unStill : ∀ (j : Nat) (o' : Oper) (r' : Rc), ¬ lst j → L[j]? = some o' → rs[j]? = some r' → knd o' r' = 2 → ν' r'.h.next = .un := by
    intro j o' r' hj ho' hr' h2
    refine hq.hi _ ?_ (I.un j o' r' hj ho' hr' h2)
    rcases Nat.lt_or_ge j i with hl | hl
    · exact .inl (nmLo j o' r' ho' hr' h2 hl)
    · exact .inr (nmHi j r' hr' (by have := ne j o' r' ho' hr' h2; omega))
  refine ⟨put_size.trans I.room, put_defers.trans I.defers, by omega, ?_, I.closed' ho hp, e1, e2, ?_, ?_, ?_, ?_, ?_, ?_, ?_⟩
  · intro j i' h hj
    have := I.kk j i' h hj
    rcases Nat.lt_trichotomy j k with hl | hl | hl
    · exact ⟨fun _ => by omega, fun _ => .inl (this.2 hl)⟩
    · subst hl
      rw [hw] at hj
      simp only [Option.some.injEq, Prod.mk.injEq] at hj
      exact ⟨fun _ => by omega, fun _ => .inr hj.1.symm⟩
    · have hne : i' ≠ i := by have := cx.wInc hl hw hj; omega
      constructor
      · intro hx
        rcases hx with hx | hx
        · have := this.1 hx; omega
        · exact absurd hx hne
      · intro hx; omega
  · -- Sat
    refine ⟨?_, hs.inj, hs.bound, ?_, sg1⟩
    · intro m cs E ro b s hg hm
      rcases sg2 m _ hg with hg' | ⟨j, o', r', h1, h2, ho', hr', hk2, em, hb⟩
      · exact hs.cells m cs E ro b s hg' hm
      · subst em
        by_cases hj : lst j
        · obtain ⟨g1, _, _, _⟩ := keepLive j o' r' _ hj ho' hr' hk2 (by omega) hb
          obtain ⟨b', c, fr, x1, x2, x3, x4, x5⟩ := g1
          rw [x1] at hm
          simp only [Slot.live.injEq] at hm
          obtain ⟨rfl, rfl⟩ := hm
          exact ⟨c, fr, x2, x3, rfl, x4, x5⟩
        · rw [unStill j o' r' hj ho' hr' hk2] at hm; cases hm
    · intro m hm
      cases hg : (XX ws st'.h (k + 1)).get m with
      | none => simp [Hp.has, hg] at hm
      | some bb =>
        rcases sg2 m _ hg with hg' | ⟨j, o', r', h1, h2, ho', hr', hk2, em, hb⟩
        · exact hs.nodead m (by simp [Hp.has, hg'])
        · subst em
          by_cases hj : lst j
          · obtain ⟨_, x2, ⟨b, s, x3⟩, _⟩ := keepLive j o' r' _ hj ho' hr' hk2 (by omega) hb
            rw [x2, x3]; exact fun y => by cases y
          · rw [unStill j o' r' hj ho' hr' hk2]; exact fun y => by cases y
  · -- PC
    have hlo2 : lo ≤ r.h.next := by
      have := cx.above hr (q := 0) (by omega)
      omega
    have hhi2 : r.h'.next ≤ st'.h.next := by rw [← hat1]; exact cx.top (by omega)
    have p0 := I.post
    rw [hX] at p0
    have p1 := p0.then s0 hq hlo2 hhi2
    refine ⟨p1.le, p1.hi, p1.frame, ?_, ?_, p1.size, p1.os, p1.tape, p1.output⟩
    · intro m b s hm e
      cases hg : (XX ws st'.h (k + 1)).get m with
      | none => simp [Hp.has, hg] at hm
      | some bb =>
        rcases sg2 m _ hg with hg' | ⟨j, o', r', h1, h2, ho', hr', hk2, em, hb⟩
        · exact p1.dom m b s (by simp [Hp.has, hg']) e
        · subst em
          by_cases hj : lst j
          · obtain ⟨_, x2, _, x4⟩ := keepLive j o' r' _ hj ho' hr' hk2 (by omega) hb
            exact .inr (x4 b s (by rw [← x2]; exact e))
          · rw [unStill j o' r' hj ho' hr' hk2] at e; cases e
    · intro m hm hl
      rw [← p1.keep m hm hl]
      cases hg : r.h'.get m with
      | some bb => exact hext m bb hg
      | none =>
        cases hg2 : (XX ws st'.h (k + 1)).get m with
        | none => rfl
        | some bb =>
          rcases sg2 m _ hg2 with hg' | ⟨j, o', r', h1, h2, ho', hr', hk2, em, hb⟩
          · rw [hg] at hg'; cases hg'
          · have := nmHi j r' hr' (by omega)
            omega
  · intro j o' r' hj ho' hr' h2
    exact unStill j o' r' (fun x => hj (.inl x)) ho' hr' h2
  · intro j o' r' blk hj ho' hr' h2 hlt hb
    have hji := ne j o' r' ho' hr' h2
    rcases hj with hj | hj
    · obtain ⟨g1, g2, _, g4⟩ := keepLive j o' r' blk hj ho' hr' h2 (by omega) hb
      exact ⟨g1, fun b s e => g4 b s (by rw [← g2]; exact e)⟩
    · exact absurd hj hji
  · intro j o' r' blk hj ho' hr' h2 hlt hb
    have hji := ne j o' r' ho' hr' h2
    have hjn : ¬ lst j := fun x => hj (.inl x)
    rcases Nat.lt_or_ge j i with hl | hl
    · have g1 := I.prom j o' r' blk hjn ho' hr' h2 (by rw [hwp]; exact hl) hb
      rw [hX] at g1
      have g2 := hq.keep _ (I.un j o' r' hjn ho' hr' h2) (nmLo j o' r' ho' hr' h2 hl)
      exact hext _ _ (g2.trans g1)
    · have hj2 : i + 1 ≤ j := by omega
      refine sg3 (j + 1) (by omega) (by omega) _ _ ?_
      rw [cx.hstep hr', hb, Hp.get_new, if_pos rfl]
  · intro m h1 h2 hno
    refine hq.hi m (.inr (by omega)) (I.fresh m ?_ h2 (fun j o' r' hj ho' hr' hk2 => hno j o' r' (.inl hj) ho' hr' hk2))
    rw [hX]; omega
  · intro j h1 h2 m b hb
    exact sg3 j (by rw [← hwl]; exact h1) h2 m b hb
end
end Go.Ev
