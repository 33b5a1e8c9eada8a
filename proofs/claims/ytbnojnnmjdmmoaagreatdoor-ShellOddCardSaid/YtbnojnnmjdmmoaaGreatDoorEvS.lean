/- Regions that draw their order: sound (3). -/
import Derived.Test.YtbnojnnmjdmmoaaGreatDoorEvR
namespace Go.Ev
variable [Sym]

structure Inv (P : Program) (T : TT) (call : CallF) (ops : Array Oper) (L : List Oper) (M : List Nat) (rs : List Rc) (ws : List (Nat × Hp)) (st st' : St)
    (ν0 : Nat → Slot) (h0 : Hp) (w0 : World) (lo N : Nat) (lst : Nat → Prop) (k : Nat) (ν : Nat → Slot) (a : Act) (w : World) : Prop where
  room : a.tmps.size = N
  defers : a.defers = []
  kle : k ≤ ws.length
  kk : ∀ (j i : Nat) (h : Hp), ws[j]? = some (i, h) → (lst i ↔ j < k)
  closed : ∀ (i : Nat) (o : Oper) (e : Edge), lst i → L[i]? = some o → e ∈ o.after.toList → Region.binds .any e = true → lst e.on
  env1 : ∀ (j : Nat) (o : Oper) (r : Rc) (d : Tmp), lst j → L[j]? = some o → rs[j]? = some r → o.dst = some d → ∃ v', a.tmps[d]? = some v' ∧ VR ν r.v v'
  env2 : ∀ (d : Tmp) (v : Value), (∀ (j : Nat) (o : Oper), lst j → L[j]? = some o → o.dst ≠ some d) → st.τ.get d = some v → ∃ v', a.tmps[d]? = some v' ∧ VR ν v v'
  sat : Sat ν (XX ws st'.h k) w
  post : PC ν0 h0 w0 ν (XX ws st'.h k) w lo st'.h.next
  un : ∀ (i : Nat) (o : Oper) (r : Rc), ¬ lst i → L[i]? = some o → rs[i]? = some r → knd o r = 2 → ν r.h.next = .un
  held : ∀ (i : Nat) (o : Oper) (r : Rc) (blk : Blk), lst i → L[i]? = some o → rs[i]? = some r → knd o r = 2 → wpos rs ws k < i → r.h' = r.h.new blk →
    Held ν w r.h.next blk ∧ (∀ b s, ν r.h.next = .live b s → w0.heap.size ≤ b)
  prom : ∀ (i : Nat) (o : Oper) (r : Rc) (blk : Blk), ¬ lst i → L[i]? = some o → rs[i]? = some r → knd o r = 2 → i < wpos rs ws k → r.h' = r.h.new blk → (XX ws st'.h k).get r.h.next = some blk
  fresh : ∀ m, (XX ws st'.h k).next ≤ m → m < st'.h.next → (∀ (i : Nat) (o : Oper) (r : Rc), lst i → L[i]? = some o → rs[i]? = some r → knd o r = 2 → m ≠ r.h.next) → ν m = .un
  ext : ∀ (i : Nat), wlo rs ws k ≤ i → i ≤ wpos rs ws k → ∀ (m : Nat) (b : Blk), (hAt rs st'.h i).get m = some b → (XX ws st'.h k).get m = some b

section
variable {P : Program} {T : TT} {call : CallF} {ops : Array Oper} {L : List Oper} {M : List Nat} {rs : List Rc} {ws : List (Nat × Hp)} {st st' : St} (cx : Cx P T call ops L M rs ws st st')
  {ν0 : Nat → Slot} {h0 : Hp} {w0 : World} {lo N : Nat} {lst : Nat → Prop} {k : Nat} {ν : Nat → Slot} {a : Act} {w : World}

/-- The next ones. -/
def Lst' (lst : Nat → Prop) (i : Nat) : Nat → Prop := fun j => lst j ∨ j = i

theorem Held.mono {ν ν' : Nat → Slot} {w w' : World} {n : Nat} {blk : Blk} (h : Held ν w n blk) (hle : Le ν ν') (hn : ν' n = ν n) (hw : ∀ b s, ν n = .live b s → w'.heap[b]? = w.heap[b]?) : Held ν' w' n blk := by
  cases blk with
  | cells cs T ro =>
    obtain ⟨b, c, fr, h1, h2, h3, h4, h5⟩ := h
    refine ⟨b, c, fr, hn.trans h1, by rw [hw b _ h1]; exact h2, h3, h4, fun i v hv => ?_⟩
    obtain ⟨v', h6, h7⟩ := h5 i v hv
    exact ⟨v', h6, h7.mono hle⟩
  | map es =>
    obtain ⟨b, s, h1⟩ := h
    exact ⟨b, s, hn.trans h1⟩

/-- What is said of slots. -/
theorem Cx.envPut (cx : Cx P T call ops L M rs ws st st') (I : Inv P T call ops L M rs ws st st' ν0 h0 w0 lo N lst k ν a w) {i : Nat} {o : Oper} {r : Rc} (ho : L[i]? = some o) (hr : rs[i]? = some r) (hni : ¬ lst i) (hroom : ∀ t, o.dst = some t → t < N) {ν' : Nat → Slot} (hle : Le ν ν') {v' : Value} (hv : VR ν' r.v v') :
    (∀ (j : Nat) (o' : Oper) (r' : Rc) (d : Tmp), Lst' lst i j → L[j]? = some o' → rs[j]? = some r' → o'.dst = some d → ∃ v'', (a.put o.dst v').tmps[d]? = some v'' ∧ VR ν' r'.v v'') ∧
    (∀ (d : Tmp) (v : Value), (∀ (j : Nat) (o' : Oper), Lst' lst i j → L[j]? = some o' → o'.dst ≠ some d) → st.τ.get d = some v → ∃ v'', (a.put o.dst v').tmps[d]? = some v'' ∧ VR ν' v v'') := by
  have other : ∀ d, o.dst ≠ some d → (a.put o.dst v').tmps[d]? = a.tmps[d]? := by
    intro d hne
    cases hd : o.dst with
    | none => rfl
    | some t =>
      simp only [Act.put]
      exact Array.getElem?_setIfInBounds_ne (fun e => hne (by rw [hd, e]))
  refine ⟨fun j o' r' d hj ho' hr' hd => ?_, fun d v hno hτ => ?_⟩
  · rcases hj with hj | rfl
    · have hne : j ≠ i := fun e => hni (e ▸ hj)
      obtain ⟨v'', h1, h2⟩ := I.env1 j o' r' d hj ho' hr' hd
      have hnd : o.dst ≠ some d := (cx.s2 i j o o' d ho ho' hd (fun e => hne e.symm)).2
      exact ⟨v'', by rw [other d hnd]; exact h1, h2.mono hle⟩
    · rw [ho] at ho'
      simp only [Option.some.injEq] at ho'
      subst ho'
      rw [hr] at hr'
      simp only [Option.some.injEq] at hr'
      subst hr'
      refine ⟨v', ?_, hv⟩
      rw [hd]
      simp only [Act.put]
      rw [Array.getElem?_setIfInBounds_self_of_lt (by rw [I.room]; exact hroom d hd)]
  · obtain ⟨v'', h1, h2⟩ := I.env2 d v (fun j o' hj ho' => hno j o' (.inl hj) ho') hτ
    exact ⟨v'', by rw [other d (hno i o (.inr rfl) ho)]; exact h1, h2.mono hle⟩

/-- The slots that an operation looks at. -/
theorem Cx.envAt (cx : Cx P T call ops L M rs ws st st') (I : Inv P T call ops L M rs ws st st' ν0 h0 w0 lo N lst k ν a w) {i : Nat} {o : Oper} {r : Rc} (ho : L[i]? = some o) (hr : rs[i]? = some r) (hni : ¬ lst i)
    (hp : ∀ e ∈ o.after.toList, Region.binds .any e = true → lst e.on) : EnvR ν (cut r.τ (looks ops o)) a := by
  intro d v hd
  rw [cut_get] at hd
  split at hd
  · rename_i hm
    have hil : i < L.length := (List.getElem?_eq_some_iff.1 ho).1
    obtain ⟨h1, h2⟩ := cx.slot i r hr d
    by_cases hw : ∃ (j : Nat) (oj : Oper), j < i ∧ L[j]? = some oj ∧ oj.dst = some d
    · obtain ⟨j, oj, hj, hoj, hdj⟩ := hw
      obtain ⟨rj, hrj⟩ := cx.rsAt hoj
      have e := h1 j oj rj hj hoj hrj hdj
      rw [e] at hd
      simp only [Option.some.injEq] at hd
      subst hd
      have := (cx.s2 i j o oj d ho hoj hdj (by omega)).1 hm
      rcases this with hb | hb
      · exact I.env1 j oj rj d (cx.closure lst I.closed i o ho hp j hb) hoj hrj hdj
      · have := cx.bitlt j i (by have := (List.getElem?_eq_some_iff.1 hoj).1; omega) hb
        omega
    · have e := h2 (fun j oj hj hoj hdj => hw ⟨j, oj, hj, hoj, hdj⟩)
      rw [e] at hd
      refine I.env2 d v (fun j oj hlj hoj hdj => ?_) hd
      have hne : i ≠ j := fun e => hni (e ▸ hlj)
      have hge : ¬ j < i := fun x => hw ⟨j, oj, x, hoj, hdj⟩
      rcases (cx.s2 i j o oj d ho hoj hdj hne).1 hm with hb | hb
      · have := cx.bitlt i j hil hb; omega
      · exact hni (cx.closure lst I.closed j oj hoj (fun e' he' hb' => I.closed j oj e' hlj hoj he' hb') i hb)
  · cases hd

/-- The list is as it was, but for one. -/
theorem Inv.closed' (I : Inv P T call ops L M rs ws st st' ν0 h0 w0 lo N lst k ν a w) {i : Nat} {o : Oper} (ho : L[i]? = some o) (hp : ∀ e ∈ o.after.toList, Region.binds .any e = true → lst e.on) :
    ∀ (j : Nat) (o' : Oper) (e : Edge), Lst' lst i j → L[j]? = some o' → e ∈ o'.after.toList → Region.binds .any e = true → Lst' lst i e.on := by
  intro j o' e hj ho' he hb
  rcases hj with hj | rfl
  · exact .inl (I.closed j o' e hj ho' he hb)
  · rw [ho] at ho'
    simp only [Option.some.injEq] at ho'
    subst ho'
    exact .inl (hp e he hb)

/-- One that leaves memory as it was. -/
theorem Cx.step0 (cx : Cx P T call ops L M rs ws st st') (I : Inv P T call ops L M rs ws st st' ν0 h0 w0 lo N lst k ν a w) {i : Nat} {o : Oper} {r : Rc} (ho : L[i]? = some o) (hr : rs[i]? = some r) (hni : ¬ lst i) (hroom : ∀ t, o.dst = some t → t < N)
    (hp : ∀ e ∈ o.after.toList, Region.binds .any e = true → lst e.on) (hk : knd o r = 0 ∨ knd o r = 1) {v' : Value} (hv : VR ν r.v v') :
    Inv P T call ops L M rs ws st st' ν0 h0 w0 lo N (Lst' lst i) k ν (a.put o.dst v') w := by
  obtain ⟨e1, e2⟩ := cx.envPut I ho hr hni hroom (Le.refl ν) hv
  have ne : ∀ (j : Nat) (o' : Oper) (r' : Rc), L[j]? = some o' → rs[j]? = some r' → (knd o' r' = 2 ∨ knd o' r' = 3) → j ≠ i := by
    intro j o' r' ho' hr' h23 e
    subst e
    rw [ho] at ho'; rw [hr] at hr'
    simp only [Option.some.injEq] at ho' hr'
    subst ho'; subst hr'
    omega
  refine ⟨put_size.trans I.room, put_defers.trans I.defers, I.kle, ?_, I.closed' ho hp, e1, e2, I.sat, I.post, ?_, ?_, ?_, ?_, I.ext⟩
  · intro j i' h hj
    obtain ⟨o', r', ho', hr', h3, _⟩ := cx.wAt hj
    have := I.kk j i' h hj
    have hne := ne i' o' r' ho' hr' (.inr h3)
    constructor
    · intro hl
      rcases hl with hl | hl
      · exact this.1 hl
      · exact absurd hl hne
    · intro hl; exact .inl (this.2 hl)
  · intro j o' r' hj ho' hr' h2
    exact I.un j o' r' (fun x => hj (.inl x)) ho' hr' h2
  · intro j o' r' blk hj ho' hr' h2 hlt hb
    rcases hj with hj | hj
    · exact I.held j o' r' blk hj ho' hr' h2 hlt hb
    · exact absurd hj (ne j o' r' ho' hr' (.inl h2))
  · intro j o' r' blk hj ho' hr' h2 hlt hb
    exact I.prom j o' r' blk (fun x => hj (.inl x)) ho' hr' h2 hlt hb
  · intro m h1 h2 hno
    exact I.fresh m h1 h2 (fun j o' r' hj ho' hr' hk2 => hno j o' r' (.inl hj) ho' hr' hk2)

/-- One that lays a new block. -/
theorem Cx.step2 (cx : Cx P T call ops L M rs ws st st') (I : Inv P T call ops L M rs ws st st' ν0 h0 w0 lo N lst k ν a w) {i : Nat} {o : Oper} {r : Rc} (ho : L[i]? = some o) (hr : rs[i]? = some r) (hni : ¬ lst i) (hroom : ∀ t, o.dst = some t → t < N)
    (hp : ∀ e ∈ o.after.toList, Region.binds .any e = true → lst e.on) (hk : knd o r = 2) {blk : Blk} (hblk : r.h' = r.h.new blk) {ν' : Nat → Slot} {w' : World} {v' : Value} (hv : VR ν' r.v v')
    (hs : Sat ν' ((⟨.emp, r.h.next⟩ : Hp).new blk) w') (hq : Post ν ⟨.emp, r.h.next⟩ w ν' ((⟨.emp, r.h.next⟩ : Hp).new blk) w') (hsh : r.v = .pointer (some ⟨r.h.next, 0, none⟩) ∨ ∃ len e, r.v = .slice (some ⟨r.h.next, 0, none⟩) len e) (hlo : lo ≤ (hAt rs st'.h 0).next) :
    Inv P T call ops L M rs ws st st' ν0 h0 w0 lo N (Lst' lst i) k ν' (a.put o.dst v') w' := by
  have hil : i < rs.length := (List.getElem?_eq_some_iff.1 hr).1
  obtain ⟨e1, e2⟩ := cx.envPut I ho hr hni hroom hq.Le hv
  have hun : ν r.h.next = .un := I.un i o r hni ho hr hk
  have hget : ((⟨.emp, r.h.next⟩ : Hp).new blk).get r.h.next = some blk := by rw [Hp.get_new]; simp
  have hlive : ∃ b s, ν' r.h.next = .live b s ∧ w.heap.size ≤ b := by
    have hnd : ν' r.h.next ≠ .dead := hs.nodead _ (by simp [Hp.has, hget])
    have hl : ∃ b s, ν' r.h.next = .live b s := by
      rcases hsh with e | ⟨len, ez, e⟩
      · rw [e] at hv
        rcases hv.ptr_inv with ⟨b, s, h1, _⟩ | ⟨h1, _⟩
        · exact ⟨b, s, h1⟩
        · exact absurd h1 hnd
      · rw [e] at hv
        rcases hv.slc_inv with ⟨b, s, _, h1, _⟩ | ⟨h1, _⟩
        · exact ⟨b, s, h1⟩
        · exact absurd h1 hnd
    obtain ⟨b, s, h1⟩ := hl
    refine ⟨b, s, h1, ?_⟩
    rcases hq.dom _ b s (by simp [Hp.has, hget]) h1 with ⟨m, s', hm, _⟩ | hb
    · simp [Hp.has, Hp.get, Tr.get_emp] at hm
    · exact hb
  have hframe : ∀ b, b < w.heap.size → w'.heap[b]? = w.heap[b]? := fun b hb => hq.frame b hb (fun m s hm => by simp [Hp.has, Hp.get, Tr.get_emp] at hm)
  have hsame : ∀ m, ν m ≠ .un → ν' m = ν m := fun m hm => by
    rcases hq.le m hm with e | ⟨_, hh⟩
    · exact e
    · simp [Hp.has, Hp.get, Tr.get_emp] at hh
  have hstill : ∀ m, m ≠ r.h.next → ν m = .un → ν' m = .un := by
    intro m hm e
    refine hq.hi m ?_ e
    have : ((⟨.emp, r.h.next⟩ : Hp).new blk).next = r.h.next + 1 := rfl
    simp only [this]
    omega
  have hback : ∀ m b s, m ≠ r.h.next → ν' m = .live b s → ν m = .live b s := by
    intro m b s hm e
    cases hν : ν m with
    | un => rw [hstill m hm hν] at e; cases e
    | dead => rw [hsame m (by rw [hν]; exact fun x => by cases x), hν] at e; cases e
    | live b' s' => rw [hsame m (by rw [hν]; exact fun x => by cases x), hν] at e; exact e
  have hheld : Held ν' w' r.h.next blk := by
    obtain ⟨b, s, h1, _⟩ := hlive
    cases blk with
    | cells cs E ro =>
      obtain ⟨c, fr, g1, g2, g3, g4, g5⟩ := hs.cells _ cs E ro b s hget h1
      subst g3
      exact ⟨b, c, fr, h1, g1, g2, g4, g5⟩
    | map es => exact ⟨b, s, h1⟩
  have hxget : i < wpos rs ws k → (XX ws st'.h k).get r.h.next = some blk := fun hlt => I.prom i o r blk hni ho hr hk hlt hblk
  have hxnone : wpos rs ws k < i → (XX ws st'.h k).get r.h.next = none := by
    intro hlt
    refine I.sat.wf _ ?_
    rw [cx.XX_hAt k]
    have := cx.nexts (wpos rs ws k) i (by omega) (by omega)
    rwa [hAt_of hr] at this
  have hnw : i ≠ wpos rs ws k := by
    intro e
    unfold wpos at e
    cases hq' : ws[k]? with
    | none => rw [hq'] at e; simp only at e; omega
    | some p =>
      obtain ⟨j, hh⟩ := p
      rw [hq'] at e
      simp only at e
      obtain ⟨o', r', ho', hr', h3, _⟩ := cx.wAt hq'
      subst e
      rw [ho] at ho'; rw [hr] at hr'
      simp only [Option.some.injEq] at ho' hr'
      subst ho'; subst hr'
      omega
  have ne : ∀ (j : Nat) (o' : Oper) (r' : Rc), L[j]? = some o' → rs[j]? = some r' → knd o' r' = 3 → j ≠ i := by
    intro j o' r' ho' hr' h3 e
    subst e
    rw [ho] at ho'; rw [hr] at hr'
    simp only [Option.some.injEq] at ho' hr'
    subst ho'; subst hr'
    omega
  -- names of blocks laid by others are others
  have names : ∀ (j : Nat) (o' : Oper) (r' : Rc), L[j]? = some o' → rs[j]? = some r' → knd o' r' = 2 → j ≠ i → r'.h.next ≠ r.h.next := by
    intro j o' r' ho' hr' h2 hne
    have hjl : j < rs.length := (List.getElem?_eq_some_iff.1 hr').1
    have step : ∀ (p : Nat) (op : Oper) (rp : Rc), L[p]? = some op → rs[p]? = some rp → knd op rp = 2 → ∀ q, p < q → q ≤ rs.length → rp.h.next < (hAt rs st'.h q).next := by
      intro p op rp hop hrp hk2 q hpq hq
      have hno : knd op rp ≠ 3 := by omega
      rcases cx.eff hop hrp hno with e | ⟨_, b, e⟩
      · -- it lays a block
        exfalso
        have hrun : rp.run = true := by
          cases hx : rp.run with
          | true => rfl
          | false => simp [knd, hx] at hk2
        have hy := (cx.t.yes p op rp hop hrp hrun).2
        obtain ⟨b, e', _⟩ := kind2 (b := Nat.beq rp.h'.next rp.h.next) rfl (by simpa [knd, hrun] using hk2) hy
        rw [e] at e'
        have := congrArg Hp.next e'
        simp [Hp.new] at this
      · have h1 := cx.hstep hrp
        have h2 := cx.nexts (p + 1) q (by omega) hq
        rw [h1, e] at h2
        have : (rp.h.new b).next = rp.h.next + 1 := rfl
        omega
    rcases Nat.lt_or_ge j i with hl | hl
    · have := step j o' r' ho' hr' h2 i hl (by omega)
      rw [hAt_of hr] at this
      omega
    · have := step i o r ho hr hk j (by omega) (by omega)
      rw [hAt_of hr'] at this
      omega
  refine ⟨put_size.trans I.room, put_defers.trans I.defers, I.kle, ?_, I.closed' ho hp, e1, e2, ?_, ?_, ?_, ?_, ?_, ?_, I.ext⟩
  · intro j i' h hj
    obtain ⟨o', r', ho', hr', h3, _⟩ := cx.wAt hj
    have := I.kk j i' h hj
    have hne := ne i' o' r' ho' hr' h3
    constructor
    · intro hl
      rcases hl with hl | hl
      · exact this.1 hl
      · exact absurd hl hne
    · intro hl; exact .inl (this.2 hl)
  · -- Sat
    refine ⟨?_, hs.inj, hs.bound, ?_, I.sat.wf⟩
    · intro m cs E ro b s hg hm
      by_cases e : m = r.h.next
      · subst e
        rcases Nat.lt_or_ge i (wpos rs ws k) with hlt | hge
        · rw [hxget hlt] at hg
          simp only [Option.some.injEq] at hg
          subst hg
          exact hs.cells _ cs E ro b s hget hm
        · rw [hxnone (by omega)] at hg; cases hg
      · have hm0 := hback m b s e hm
        obtain ⟨c, fr, g1, g2, g3, g4, g5⟩ := I.sat.cells m cs E ro b s hg hm0
        refine ⟨c, fr, by rw [hframe b (I.sat.bound m b s hm0)]; exact g1, g2, g3, g4, fun j v hv' => ?_⟩
        obtain ⟨u, g6, g7⟩ := g5 j v hv'
        exact ⟨u, g6, g7.mono hq.Le⟩
    · intro m hm
      by_cases e : m = r.h.next
      · subst e
        obtain ⟨b, s, h1, _⟩ := hlive
        rw [h1]; exact fun x => by cases x
      · cases hν : ν m with
        | un => rw [hstill m e hν]; exact fun x => by cases x
        | dead => exact absurd hν (I.sat.nodead m hm)
        | live b s => rw [hsame m (by rw [hν]; exact fun x => by cases x), hν]; exact fun x => by cases x
  · -- PC
    have hlo2 : lo ≤ r.h.next := by
      have := cx.nexts 0 i (by omega) (by omega)
      rw [hAt_of (last := st'.h) hr] at this
      omega
    have hhi2 : r.h.next < st'.h.next := by
      have h1 := cx.hstep hr
      have h2 := cx.nexts (i + 1) rs.length (by omega) (Nat.le_refl _)
      rw [h1, hblk] at h2
      have h3 : hAt rs st'.h rs.length = st'.h := by simp [hAt]
      rw [h3] at h2
      have : (r.h.new blk).next = r.h.next + 1 := rfl
      omega
    refine ⟨?_, ?_, ?_, ?_, I.post.keep, Nat.le_trans I.post.size hq.size, hq.os.trans I.post.os, hq.tape.trans I.post.tape, hq.output.trans I.post.output⟩
    · intro m hm
      rcases I.post.le m hm with e | ⟨e, hh⟩
      · exact .inl ((hsame m (by rw [e]; exact hm)).trans e)
      · exact .inr ⟨(hsame m (by rw [e]; exact fun x => by cases x)).trans e, hh⟩
    · intro m hm e
      have h1 := I.post.hi m hm e
      exact hstill m (by omega) h1
    · intro b hb hno
      rw [hframe b (Nat.lt_of_lt_of_le hb I.post.size)]
      exact I.post.frame b hb hno
    · intro m b s hm e
      by_cases em : m = r.h.next
      · subst em
        obtain ⟨b', s', h1, h2⟩ := hlive
        rw [h1] at e
        simp only [Slot.live.injEq] at e
        exact .inr (by have := I.post.size; omega)
      · exact I.post.dom m b s hm (hback m b s em e)
  · intro j o' r' hj ho' hr' h2
    have hji : j ≠ i := fun e => hj (.inr e)
    exact hstill _ (names j o' r' ho' hr' h2 hji) (I.un j o' r' (fun x => hj (.inl x)) ho' hr' h2)
  · intro j o' r' blk' hj ho' hr' h2 hlt hb
    rcases hj with hj | rfl
    · obtain ⟨g1, g2⟩ := I.held j o' r' blk' hj ho' hr' h2 hlt hb
      have hji : j ≠ i := fun e => hni (e ▸ hj)
      have hl : ∃ b s, ν r'.h.next = .live b s := by
        cases blk' with
        | cells cs E ro => obtain ⟨b, c, _, x, _⟩ := g1; exact ⟨b, c.size, x⟩
        | map es => exact g1
      obtain ⟨b, s, hl⟩ := hl
      have hsm : ν' r'.h.next = ν r'.h.next := hsame _ (by rw [hl]; exact fun x => by cases x)
      refine ⟨g1.mono hq.Le hsm (fun b' s' e => hframe b' (I.sat.bound _ b' s' e)), fun b' s' e => g2 b' s' (by rw [hsm] at e; exact e)⟩
    · rw [ho] at ho'; rw [hr] at hr'
      simp only [Option.some.injEq] at ho' hr'
      subst ho'; subst hr'
      have : blk' = blk := by
        rw [hblk] at hb
        have h1 := congrArg (fun h => Hp.get h r.h.next) hb
        simp only [Hp.get_new, if_true, Option.some.injEq] at h1
        exact h1.symm
      subst this
      refine ⟨hheld, fun b s e => ?_⟩
      obtain ⟨b', s', h1, h2'⟩ := hlive
      rw [h1] at e
      simp only [Slot.live.injEq] at e
      have := I.post.size
      omega
  · intro j o' r' blk' hj ho' hr' h2 hlt hb
    exact I.prom j o' r' blk' (fun x => hj (.inl x)) ho' hr' h2 hlt hb
  · intro m h1 h2 hno
    exact hstill m (hno i o r (.inr rfl) ho hr hk) (I.fresh m h1 h2 (fun j o' r' hj ho' hr' hk2 => hno j o' r' (.inl hj) ho' hr' hk2))
end
end Go.Ev
