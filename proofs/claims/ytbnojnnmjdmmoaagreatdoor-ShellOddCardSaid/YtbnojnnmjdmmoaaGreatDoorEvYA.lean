/- A call in a small heap of its own. -/
import Derived.Test.YtbnojnnmjdmmoaaGreatDoorEvY
namespace Go.Ev
variable [Sym]

def clo : Value → Bool
  | .agg cs => cs.toList.all gnd
  | .tuple cs => cs.toList.all gnd
  | v => gnd v
omit [Sym] in
theorem clo_flat {v : Value} (h : clo v = true) : gnd v = true ∨ (∃ cs, v = .agg cs ∧ cs.toList.all gnd = true) ∨ ∃ cs, v = .tuple cs ∧ cs.toList.all gnd = true := by
  unfold clo at h
  split at h
  · exact .inr (.inl ⟨_, rfl, h⟩)
  · exact .inr (.inr ⟨_, rfl, h⟩)
  · exact .inl h
theorem VR.of_clo {ν : Nat → Slot} {v : Value} (h : clo v = true) : VR ν v v := by
  rcases clo_flat h with h | ⟨cs, rfl, h⟩ | ⟨cs, rfl, h⟩
  · exact .grd v h
  · exact .agg cs cs rfl fun i a b q1 q2 => by
      rw [q1] at q2
      simp only [Option.some.injEq] at q2
      subst q2
      exact .grd _ (List.all_eq_true.1 h _ (List.mem_of_getElem? (by simpa using q1)))
  · exact .tup cs cs rfl fun i a b q1 q2 => by
      rw [q1] at q2
      simp only [Option.some.injEq] at q2
      subst q2
      exact .grd _ (List.all_eq_true.1 h _ (List.mem_of_getElem? (by simpa using q1)))
theorem VR.clo_inv {ν : Nat → Slot} {v v' : Value} (hv : VR ν v v') (h : clo v = true) : v' = v := by
  have arr : ∀ (cs cs' : Array Value), cs.toList.all gnd = true → cs.size = cs'.size → (∀ (i : Nat) (a b : Value), cs[i]? = some a → cs'[i]? = some b → VR ν a b) → cs' = cs := by
    intro cs cs' hg hs hh
    have : cs'.toList = cs.toList := LR.gnds (ν := ν) ⟨by simpa using hs, fun i a b q1 q2 => hh i a b (by simpa using q1) (by simpa using q2)⟩ hg
    exact Array.ext' this
  rcases clo_flat h with h | ⟨cs, rfl, h⟩ | ⟨cs, rfl, h⟩
  · exact hv.grd_inv h
  · obtain ⟨cs', rfl, h1, h2⟩ := hv.agg_inv
    rw [arr cs cs' h h1 h2]
  · obtain ⟨cs', rfl, h1, h2⟩ := hv.tup_inv
    rw [arr cs cs' h h1 h2]

/-! ### Equal blocks -/
def vls : List Value → List Value → Bool
  | [], [] => true
  | a :: l, b :: r => veqA a b && vls l r
  | _, _ => false
omit [Sym] in
theorem vls_eq : ∀ {l r : List Value}, vls l r = true → l = r
  | [], [], _ => rfl
  | a :: l, b :: r, h => by
    simp only [vls, Bool.and_eq_true] at h
    rw [veqA_eq h.1, vls_eq h.2]
  | [], _ :: _, h => by cases h
  | _ :: _, [], h => by cases h
def bleq : Blk → Blk → Bool
  | .cells a T x, .cells b U y => vls a b && (Nat.beq T U && (x == y))
  | .map [], .map [] => true
  | _, _ => false
omit [Sym] in
theorem bleq_eq {a b : Blk} (h : bleq a b = true) : a = b := by
  unfold bleq at h
  split at h
  · simp only [Bool.and_eq_true, beq_iff_eq] at h
    rw [vls_eq h.1, Nat.eq_of_beq_eq_true h.2.1, h.2.2]
  · rfl
  · cases h

abbrev Lits := List (Nat × Blk)
def hasL (L : Lits) (h : Hp) : Bool := L.all fun p => match h.get p.1 with | some b => bleq b p.2 | none => false
omit [Sym] in
theorem hasL_spec {L : Lits} {h : Hp} (hh : hasL L h = true) {n : Nat} {b : Blk} (hm : (n, b) ∈ L) : h.get n = some b := by
  have := List.all_eq_true.1 hh _ hm
  simp only at this
  split at this
  · rename_i x hx
    rw [hx, bleq_eq this]
  · cases this
def trOf : Lits → Tr Blk
  | [] => .emp
  | (n, b) :: r => (trOf r).set n (some b)
def hOf (L : Lits) (nx : Nat) : Hp := ⟨trOf L, nx⟩
omit [Sym] in
theorem hOf_get : ∀ {L : Lits} {nx n : Nat} {b : Blk}, (hOf L nx).get n = some b → (n, b) ∈ L
  | [], nx, n, b, h => by simp [hOf, trOf, Hp.get, Tr.get_emp] at h
  | (m, c) :: r, nx, n, b, h => by
    simp only [hOf, trOf, Hp.get] at h
    rw [Tr.get_set] at h
    split at h
    · rename_i e
      simp only [Option.some.injEq] at h
      subst e; subst h
      simp
    · have := hOf_get (L := r) (nx := nx) h
      simp [this]

def lowV (nx : Nat) : Value → Bool
  | .pointer (some ⟨n, _, none⟩) => Nat.blt n nx
  | .slice (some ⟨n, _, none⟩) _ _ => Nat.blt n nx
  | v => clo v
theorem VR.low {ν : Nat → Slot} {nx : Nat} {v v' : Value} (hb : lowV nx v = true) (hv : VR ν v v') : VR (fun n => if n < nx then ν n else .un) v v' := by
  unfold lowV at hb
  split at hb
  · rename_i n off
    have hn : n < nx := by simpa [Nat.blt_eq] using hb
    rcases hv.ptr_inv with ⟨b, s, h1, rfl⟩ | ⟨hd, a, hs, rfl⟩
    · exact .ptr n off b s (by simp only [hn, if_true]; exact h1)
    · exact .ptrD n off a (by simp only [hn, if_true]; exact hd) hs
  · rename_i n off len e
    have hn : n < nx := by simpa [Nat.blt_eq] using hb
    rcases hv.slc_inv with ⟨b, s, cap, h1, h2, h3, rfl⟩ | ⟨hd, a, cap, hs, hl, rfl⟩
    · exact .slc n off len e b s cap (by simp only [hn, if_true]; exact h1) h2 h3
    · exact .slcD n off len e cap a (by simp only [hn, if_true]; exact hd) hs hl
  · rw [hv.clo_inv hb]
    exact VR.of_clo hb

def copyOut (v : Value) (h1 : Hp) (nx : Nat) (h : Hp) : Option (Value × Hp) :=
  match v with
  | .slice (some ⟨n, 0, none⟩) len e => bif Nat.ble nx n then
      match h1.get n with
      | some (.cells cs T ro) => bif cs.all gnd then some (.slice (some ⟨h.next, 0, none⟩) len e, h.new (.cells cs T ro)) else none
      | _ => none
    else none
  | v => bif clo v then some (v, h) else none

omit [Sym] in
theorem copyOut_spec {v u : Value} {h1 h h' : Hp} {nx : Nat} (hx : copyOut v h1 nx h = some (u, h')) :
    (∃ n len e cs T ro, v = .slice (some ⟨n, 0, none⟩) len e ∧ nx ≤ n ∧ h1.get n = some (.cells cs T ro) ∧ cs.all gnd = true ∧ u = .slice (some ⟨h.next, 0, none⟩) len e ∧ h' = h.new (.cells cs T ro)) ∨
    (clo v = true ∧ u = v ∧ h' = h) := by
  unfold copyOut at hx
  split at hx
  · rename_i n len e
    cases hb : Nat.ble nx n with
    | false => rw [hb] at hx; cases hx
    | true =>
      rw [hb] at hx
      simp only [cond_true] at hx
      split at hx
      · rename_i cs T ro hg
        cases hcs : cs.all gnd with
        | false => rw [hcs] at hx; cases hx
        | true =>
          rw [hcs] at hx
          simp only [cond_true, Option.some.injEq, Prod.mk.injEq] at hx
          exact .inl ⟨n, len, e, cs, T, ro, rfl, Nat.le_of_ble_eq_true hb, hg, hcs, hx.1.symm, hx.2.symm⟩
      · cases hx
  · cases hcl : clo v with
    | false => rw [hcl] at hx; cases hx
    | true =>
      rw [hcl] at hx
      simp only [cond_true, Option.some.injEq, Prod.mk.injEq] at hx
      exact .inr ⟨rfl, hx.1.symm, hx.2.symm⟩

def lowB (nx : Nat) : Blk → Bool
  | .cells cs _ _ => cs.all (lowV nx)
  | .map _ => true

/-- A function that reads some blocks and writes on none of them. -/
def localS (call : CallG) (f : Nat) (L : Lits) (nx : Nat) : ASpec := fun vs h =>
  bif (L.all fun p => Nat.blt p.1 nx && lowB nx p.2) && (hasL L h && vs.all (lowV nx)) then
    match call f vs (hOf L nx) with
    | some (v, h1) => bif hasL L h1 then copyOut v h1 nx h else none
    | none => none
  else none

theorem localS_ok {P : Program} {call : CallG} (hc : CallOkD P call) (f : Nat) (L : Lits) (nx : Nat) : ASpecOk P f (localS call f L nx) := by
  intro vs h v h' hx
  unfold localS at hx
  cases hz : ((L.all fun p => Nat.blt p.1 nx && lowB nx p.2) && (hasL L h && vs.all (lowV nx))) with
  | false => rw [hz] at hx; cases hx
  | true =>
    rw [hz] at hx
    simp only [Bool.and_eq_true] at hz
    obtain ⟨hz1, hz2, hz3⟩ := hz
    simp only [cond_true] at hx
    split at hx
    · rename_i v1 h1 hcall
      cases hu : hasL L h1 with
      | false => rw [hu] at hx; cases hx
      | true =>
        rw [hu] at hx
        simp only [cond_true] at hx
        have hlt : ∀ n b, (hOf L nx).get n = some b → n < nx ∧ lowB nx b = true := by
          intro n b hg
          have := List.all_eq_true.1 hz1 _ (hOf_get hg)
          simpa [Nat.blt_eq] using this
        have hget : ∀ n, (hOf L nx).has n → ∃ b, (hOf L nx).get n = some b := by
          intro n hn
          unfold Hp.has at hn
          cases hg : (hOf L nx).get n with
          | none => rw [hg] at hn; simp at hn
          | some b => exact ⟨b, rfl⟩
        have hin : ∀ n b, (hOf L nx).get n = some b → h.get n = some b := fun n b hg => hasL_spec hz2 (hOf_get hg)
        have hin1 : ∀ n b, (hOf L nx).get n = some b → h1.get n = some b := fun n b hg => hasL_spec hu (hOf_get hg)
        have hhas : ∀ n, (hOf L nx).has n → h.has n := fun n hn => by
          obtain ⟨b, hb⟩ := hget n hn
          simp [Hp.has, hin n b hb]
        have hsp := copyOut_spec hx
        have hnext : h.next ≤ h'.next := by
          rcases hsp with ⟨n, len, e, cs, T, ro, _, _, _, _, _, rfl⟩ | ⟨_, _, rfl⟩
          · simp [Hp.new]
          · exact Nat.le_refl _
        refine ⟨hnext, fun ν w vs' s g hl hfr => ?_⟩
        generalize hν0 : (fun n => if n < nx then ν n else Slot.un) = ν0
        have hν : ∀ n, n < nx → ν0 n = ν n := fun n hn => by rw [← hν0]; simp only [hn, if_true]
        have hνg : ∀ n, ¬ n < nx → ν0 n = .un := fun n hn => by rw [← hν0]; simp only [hn, if_false]
        have s0 : Sat ν0 (hOf L nx) w := by
          refine ⟨fun n cs E ro b z hg hn => ?_, fun n m b z z' hn hm => ?_, fun n b z hn => ?_, fun n hn => ?_, fun n hn => ?_⟩
          · obtain ⟨l1, l2⟩ := hlt n _ hg
            rw [hν n l1] at hn
            obtain ⟨c, fr, a1, a2, a3, a4, a5⟩ := s.cells n cs E ro b z (hin n _ hg) hn
            refine ⟨c, fr, a1, a2, a3, a4, fun i v hv => ?_⟩
            obtain ⟨v', b1, b2⟩ := a5 i v hv
            refine ⟨v', b1, ?_⟩
            rw [← hν0]
            exact b2.low (List.all_eq_true.1 l2 _ (List.mem_of_getElem? hv))
          · by_cases l1 : n < nx
            · by_cases l2 : m < nx
              · rw [hν n l1] at hn
                rw [hν m l2] at hm
                exact s.inj n m b z z' hn hm
              · rw [hνg m l2] at hm; cases hm
            · rw [hνg n l1] at hn; cases hn
          · by_cases l1 : n < nx
            · rw [hν n l1] at hn; exact s.bound n b z hn
            · rw [hνg n l1] at hn; cases hn
          · obtain ⟨b, hb⟩ := hget n hn
            rw [hν n (hlt n b hb).1]
            exact s.nodead n (hhas n hn)
          · cases hg : (hOf L nx).get n with
            | none => rfl
            | some b =>
              have hn' : nx ≤ n := hn
              have := (hlt n b hg).1
              omega
        have g0 : Gl ν0 (hOf L nx) w := fun k d hk => ⟨(g k d hk).1, fun n z hn => by
          obtain ⟨b, hb⟩ := hget n hn
          rw [hν n (hlt n b hb).1]
          exact (g k d hk).2 n z (hhas n hn)⟩
        have hl0 : LR ν0 vs vs'.toList := ⟨hl.1, fun i a b q1 q2 => by
          rw [← hν0]
          exact (hl.2 i a b q1 q2).low (List.all_eq_true.1 hz3 _ (List.mem_of_getElem? q1))⟩
        have hf0 : Fresh ν0 (hOf L nx) h1 := fun n q1 _ => hνg n (by have : nx ≤ n := q1; omega)
        -- what stands behind it
        have fin : ∀ (ν1 : Nat → Slot) (w1 : World) (v' : Value), VR ν1 v1 v' → Sat ν1 h1 w1 → Post ν0 (hOf L nx) w ν1 h1 w1 → ∃ ν', VR ν' v v' ∧ Sat ν' h' w1 ∧ Post ν h w ν' h' w1 := by
          intro ν1 w1 v' hv1 s1 p1
          have hfr1 : ∀ b, b < w.heap.size → (∀ n z, (hOf L nx).has n → ν n ≠ .live b z) → w1.heap[b]? = w.heap[b]? := fun b hb hno => p1.frame b hb (fun n z hn => by
            obtain ⟨bb, hbb⟩ := hget n hn
            rw [hν n (hlt n bb hbb).1]
            exact hno n z hn)
          have hall : ∀ n, n < nx → ν1 n = ν n := by
            intro n l1
            by_cases hun : ν n = .un
            · rw [hun]
              exact p1.hi n (.inl l1) (by rw [hν n l1]; exact hun)
            · rcases p1.le n (by rw [hν n l1]; exact hun) with e | ⟨e, hn⟩
              · rw [e, hν n l1]
              · obtain ⟨bb, hbb⟩ := hget n hn
                exact (s1.nodead n (by simp [Hp.has, hin1 n bb hbb]) e).elim
          have hback : ∀ (v v' : Value), lowV nx v = true → VR ν1 v v' → VR ν v v' := by
            intro v v' hb hv
            have h2 := hv.low hb
            have e : (fun n => if n < nx then ν1 n else Slot.un) = ν0 := by
              rw [← hν0]
              funext n
              split
              · rename_i l1; exact hall n l1
              · rfl
            rw [e] at h2
            refine h2.mono fun n hn => .inl ?_
            by_cases l1 : n < nx
            · exact (hν n l1).symm
            · exact (hn (hνg n l1)).elim
          have hcells : ∀ n cs E ro b z, h.get n = some (.cells cs E ro) → ν n = .live b z →
              ∃ (c : Array Value) (fr : Nat × Nat), w1.heap[b]? = some (.cells c E fr) ∧ (ro = false → fr = (0, 0)) ∧ c.size = z ∧ cs.length ≤ z ∧ ∀ (i : Nat) (v : Value), cs[i]? = some v → ∃ v', c[i]? = some v' ∧ VR ν v v' := by
            intro n cs E ro b z hg hn
            obtain ⟨c, fr, a1, a2, a3, a4, a5⟩ := s.cells n cs E ro b z hg hn
            by_cases hh : (hOf L nx).has n
            · obtain ⟨bb, hbb⟩ := hget n hh
              have e1 : bb = .cells cs E ro := by have := hin n bb hbb; rw [hg] at this; simpa using this.symm
              subst e1
              obtain ⟨l1, l2⟩ := hlt n _ hbb
              obtain ⟨c', fr', b1, b2, b3, b4, b5⟩ := s1.cells n cs E ro b z (hin1 n _ hbb) (by rw [hall n l1]; exact hn)
              refine ⟨c', fr', b1, b2, b3, b4, fun i v hv => ?_⟩
              obtain ⟨v', q1, q2⟩ := b5 i v hv
              exact ⟨v', q1, hback v v' (List.all_eq_true.1 l2 _ (List.mem_of_getElem? hv)) q2⟩
            · refine ⟨c, fr, ?_, a2, a3, a4, a5⟩
              rw [hfr1 b (s.bound n b z hn) (fun m z' hm e => hh (by rw [s.inj n m b z z' hn e]; exact hm))]
              exact a1
          have hsz : ∀ n b z, ν n = .live b z → b < w1.heap.size := fun n b z hn => Nat.lt_of_lt_of_le (s.bound n b z hn) p1.size
          have hfrH : ∀ b, b < w.heap.size → (∀ n z, h.has n → ν n ≠ .live b z) → w1.heap[b]? = w.heap[b]? := fun b hb hno => hfr1 b hb fun n z hn => hno n z (hhas n hn)
          rcases hsp with ⟨n, len, e, cs, T, ro, rfl, hnn, hg, hcs, rfl, rfl⟩ | ⟨hcl, rfl, rfl⟩
          · have hn1 : h1.has n := by simp [Hp.has, hg]
            rcases hv1.slc_inv with ⟨b, z, cap, q1, q2, q3, rfl⟩ | ⟨hd, _⟩
            · obtain ⟨c, fr, a1, a2, a3, a4, a5⟩ := s1.cells n cs T ro b z hg q1
              have hbn : w.heap.size ≤ b := by
                rcases p1.dom n b z hn1 q1 with ⟨m, z', hm, e⟩ | h2
                · exfalso
                  obtain ⟨bb, hbb⟩ := hget m hm
                  have l1 := (hlt m bb hbb).1
                  rw [hν m l1, ← hall m l1] at e
                  have := s1.inj n m b z z' q1 e
                  omega
                · exact h2
              have hfn : ν h.next = .un := hfr h.next (Nat.le_refl _) (by simp [Hp.new])
              have hle : Le ν (upd ν h.next (.live b z)) := upd_Le _ hfn
              refine ⟨upd ν h.next (.live b z), .slc _ _ _ _ _ z _ (upd_same _ _ _) q2 q3, ⟨?_, ?_, ?_, ?_, ?_⟩, ⟨?_, ?_, ?_, ?_, ?_, ?_, ?_, p1.os, p1.tape, p1.output⟩⟩
              · intro m ds D ro' b' z' hgm hm
                rw [Hp.get_new] at hgm
                split at hgm
                · rename_i em
                  subst em
                  rw [upd_same] at hm
                  simp only [Option.some.injEq, Blk.cells.injEq] at hgm
                  obtain ⟨rfl, rfl, rfl⟩ := hgm
                  simp only [Slot.live.injEq] at hm
                  obtain ⟨rfl, rfl⟩ := hm
                  refine ⟨c, fr, a1, a2, a3, a4, fun i v hv => ?_⟩
                  obtain ⟨u, b1, b2⟩ := a5 i v hv
                  have hgv := List.all_eq_true.1 hcs _ (List.mem_of_getElem? hv)
                  exact ⟨u, b1, by rw [b2.grd_inv hgv]; exact .grd _ hgv⟩
                · rename_i em
                  rw [upd_other ν _ em] at hm
                  obtain ⟨c', fr', b1, b2, b3, b4, b5⟩ := hcells m ds D ro' b' z' hgm hm
                  refine ⟨c', fr', b1, b2, b3, b4, fun i v hv => ?_⟩
                  obtain ⟨u, d1, d2⟩ := b5 i v hv
                  exact ⟨u, d1, d2.mono hle⟩
              · intro m m' b' z1 z2 hm hm'
                unfold upd at hm hm'
                split at hm <;> split at hm'
                · simp_all
                · simp only [Slot.live.injEq] at hm; have := s.bound m' b' z2 hm'; omega
                · simp only [Slot.live.injEq] at hm'; have := s.bound m b' z1 hm; omega
                · exact s.inj m m' b' z1 z2 hm hm'
              · intro m b' z1 hm
                unfold upd at hm
                split at hm
                · simp only [Slot.live.injEq] at hm
                  rw [← hm.1]
                  exact s1.bound n b z q1
                · exact hsz m b' z1 hm
              · intro m hm
                unfold Hp.has at hm
                rw [Hp.get_new] at hm
                unfold upd
                split
                · exact fun x => by cases x
                · rename_i em; rw [if_neg em] at hm; exact s.nodead m hm
              · intro m hm
                have hm' : h.next + 1 ≤ m := hm
                rw [Hp.get_new, if_neg (by omega)]
                exact s.wf m (by omega)
              · intro m hm
                by_cases em : m = h.next
                · subst em; exact absurd hfn hm
                · exact .inl (upd_other ν _ em)
              · intro m hm em
                have : m ≠ h.next := by simp [Hp.new] at hm; omega
                rw [upd_other ν _ this]; exact em
              · exact hfrH
              · intro m b' z1 hm hm2
                unfold Hp.has at hm
                rw [Hp.get_new] at hm
                unfold upd at hm2
                split at hm2
                · simp only [Slot.live.injEq] at hm2; exact .inr (by omega)
                · rename_i em; rw [if_neg em] at hm; exact .inl ⟨m, z1, hm, hm2⟩
              · intro m _ hm
                rw [Hp.get_new, if_neg (by omega)]
              · exact p1.size
              · simp [Hp.new]
            · exact (s1.nodead n hn1 hd).elim
          · refine ⟨ν, by rw [hv1.clo_inv hcl]; exact VR.of_clo hcl, ⟨hcells, s.inj, hsz, s.nodead, s.wf⟩, ⟨fun _ _ => .inl rfl, fun _ _ e => e, hfrH, fun _ _ z hh e => .inl ⟨_, z, hh, e⟩, fun _ _ _ => rfl, p1.size, Nat.le_refl _, p1.os, p1.tape, p1.output⟩⟩
        rcases (hc _ _ _ _ _ hcall).2 ν0 w vs' s0 g0 hl0 hf0 with ⟨nx', v', w', ν', hr, hnx, hv, hs, p⟩ | ⟨f', args, hr, hcalls⟩
        · obtain ⟨ν2, k1, k2, k3⟩ := fin ν' w' v' hv hs p
          exact .inl ⟨nx', v', w', ν2, hr, hnx, k1, k2, k3⟩
        · refine .inr ⟨f', args, hr, hcalls.mono fun e w' he => ?_⟩
          obtain ⟨v', ν', rfl, hv, hs, p⟩ := he
          obtain ⟨ν2, k1, k2, k3⟩ := fin ν' w' v' hv hs p
          exact ⟨v', ν2, rfl, k1, k2, k3⟩
    · cases hx

/-- The same at just these arguments. -/
def localF (call : CallG) (f : Nat) (L : Lits) (nx : Nat) (vs0 : List Value) : ASpec := fun vs h => bif vls vs vs0 then localS call f L nx vs0 h else none
theorem localF_ok {P : Program} {call : CallG} (hc : CallOkD P call) (f : Nat) (L : Lits) (nx : Nat) (vs0 : List Value) : ASpecOk P f (localF call f L nx vs0) := by
  intro vs h v h' hx
  unfold localF at hx
  cases hz : vls vs vs0 with
  | false => rw [hz] at hx; cases hx
  | true =>
    rw [hz] at hx
    simp only [cond_true] at hx
    rw [vls_eq hz]
    exact localS_ok hc f L nx vs0 h v h' hx

/-- One or the other. -/
def altS (a b : ASpec) : ASpec := fun vs h => match a vs h with | some r => some r | none => b vs h
theorem altS_ok {P : Program} {f : Nat} {a b : ASpec} (ha : ASpecOk P f a) (hb : ASpecOk P f b) : ASpecOk P f (altS a b) := by
  intro vs h v h' hx
  unfold altS at hx
  split at hx
  · rename_i r hr
    simp only [Option.some.injEq] at hx
    subst hx
    exact ha vs h v h' hr
  · exact hb vs h v h' hx
end Go.Ev
