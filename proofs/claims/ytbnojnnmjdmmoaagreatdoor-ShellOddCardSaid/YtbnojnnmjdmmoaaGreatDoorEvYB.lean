/- A slice that a function made, told as a new block. -/
import Derived.Test.YtbnojnnmjdmmoaaGreatDoorEvYA
import Derived.Test.YtbnojnnmjdmmoaaGreatDoorEvZ
namespace Go.Ev
variable [Sym]

theorem fresh_sound {ν : Nat → Slot} {h : Hp} {w w' : World} (s : Sat ν h w) (hf : ν h.next = .un) {g : Nat} {c : Array Value} {cs : List Value} {T : TypeId} {ro : Bool} {fr : Nat × Nat}
    (hg : w.heap.size ≤ g) (hb : w'.heap[g]? = some (.cells c T fr)) (hro : ro = false → fr = (0, 0)) (hl : cs.length ≤ c.size)
    (hv : ∀ (i : Nat) (v : Value), cs[i]? = some v → ∃ v', c[i]? = some v' ∧ VR (upd ν h.next (.live g c.size)) v v') (x : Ext w w') :
    Sat (upd ν h.next (.live g c.size)) (h.new (.cells cs T ro)) w' ∧ Post ν h w (upd ν h.next (.live g c.size)) (h.new (.cells cs T ro)) w' := by
  have hle : Le ν (upd ν h.next (.live g c.size)) := upd_Le _ hf
  have hgs : g < w'.heap.size := by
    rcases Nat.lt_or_ge g w'.heap.size with h | h
    · exact h
    · rw [Array.getElem?_eq_none h] at hb; cases hb
  refine ⟨⟨?_, ?_, ?_, ?_, ?_⟩, ⟨?_, ?_, ?_, ?_, ?_, ?_, ?_, x.os, x.tape, x.output⟩⟩
  · intro m ds D ro' b' z' hgm hm
    rw [Hp.get_new] at hgm
    split at hgm
    · rename_i em
      subst em
      rw [upd_same] at hm
      simp only [Option.some.injEq, Blk.cells.injEq] at hgm
      obtain ⟨rfl, rfl, rfl⟩ := hgm
      simp only [Slot.live.injEq] at hm
      obtain ⟨rfl, rfl⟩ := hm
      exact ⟨c, fr, hb, hro, rfl, hl, hv⟩
    · rename_i em
      rw [upd_other ν _ em] at hm
      obtain ⟨c', fr', b1, b2, b3, b4, b5⟩ := s.cells m ds D ro' b' z' hgm hm
      refine ⟨c', fr', by rw [x.old b' (s.bound m b' z' hm)]; exact b1, b2, b3, b4, fun i v hv => ?_⟩
      obtain ⟨u, d1, d2⟩ := b5 i v hv
      exact ⟨u, d1, d2.mono hle⟩
  · intro m m' b' z1 z2 hm hm'
    unfold upd at hm hm'
    split at hm <;> split at hm'
    · simp_all
    · simp only [Slot.live.injEq] at hm; have := s.bound m' b' z2 hm'; omega
    · simp only [Slot.live.injEq] at hm'; have := s.bound m b' z1 hm; omega
    · exact s.inj m m' b' z1 z2 hm hm'
  · intro m b' z1 hm
    unfold upd at hm
    split at hm
    · simp only [Slot.live.injEq] at hm
      rw [← hm.1]
      exact hgs
    · exact Nat.lt_of_lt_of_le (s.bound m b' z1 hm) x.size
  · intro m hm
    unfold Hp.has at hm
    rw [Hp.get_new] at hm
    unfold upd
    split
    · exact fun x => by cases x
    · rename_i em; rw [if_neg em] at hm; exact s.nodead m hm
  · intro m hm
    have hm' : h.next + 1 ≤ m := hm
    rw [Hp.get_new, if_neg (by omega)]
    exact s.wf m (by omega)
  · intro m hm
    by_cases em : m = h.next
    · subst em; exact absurd hf hm
    · exact .inl (upd_other ν _ em)
  · intro m hm em
    have : m ≠ h.next := by simp [Hp.new] at hm; omega
    rw [upd_other ν _ this]; exact em
  · intro b hb _
    exact x.old b hb
  · intro m b' z1 hm hm2
    unfold Hp.has at hm
    rw [Hp.get_new] at hm
    unfold upd at hm2
    split at hm2
    · simp only [Slot.live.injEq] at hm2; exact .inr (by omega)
    · rename_i em; rw [if_neg em] at hm; exact .inl ⟨m, z1, hm, hm2⟩
  · intro m _ hm
    rw [Hp.get_new, if_neg (by omega)]
  · exact x.size
  · simp [Hp.new]

/-- A function that makes one row and hands it back: of the first cells something is told. -/
def rowR (r : List Value → Option (Nat × Nat × List Value × TypeId)) : ASpec := fun vs h => match r vs with
  | some (len, e, cs, T) => some (.slice (some ⟨h.next, 0, none⟩) len e, h.new (.cells cs T false))
  | none => none
theorem rowR_ok {P : Program} {f : Nat} {fn : Func} {c : Code} (hf : P.funcs[f]? = some fn) (hname : (fn.name == "runtime.NumGoroutine") = false) (hb : fn.body = some c)
    {r : List Value → Option (Nat × Nat × List Value × TypeId)}
    (hC : ∀ vs len e cs T, r vs = some (len, e, cs, T) → ∀ (ν : Nat → Slot) (w : World) (vs' : Array Value), Gw w → LR ν vs vs'.toList →
      Calls P f vs' w fun x w' => ∃ g cap d, x = .returned (.slice (some ⟨g, 0, none⟩) len cap) ∧ w.heap.size ≤ g ∧ w'.heap[g]? = some (.cells d T (0, 0)) ∧ len ≤ cap ∧ cap * e ≤ d.size ∧ cs.length ≤ d.size ∧
        (∀ (i : Nat) (v : Value), cs[i]? = some v → ∃ v', d[i]? = some v' ∧ ∀ ν', VR ν' v v') ∧ Ext w w') :
    ASpecOk P f (rowR r) := by
  intro vs h v h' hx
  unfold rowR at hx
  split at hx
  · rename_i len e cs T hr
    simp only [Option.some.injEq, Prod.mk.injEq] at hx
    obtain ⟨rfl, rfl⟩ := hx
    refine ⟨by simp [Hp.new], fun ν w vs' s g hl hfr => .inr ⟨f, vs', run_callFunc_body hf hname hb vs' w, ?_⟩⟩
    refine (hC vs len e cs T hr ν w vs' (Gl.wd g) hl).mono fun x w' he => ?_
    obtain ⟨b, cap, d, rfl, h1, h2, h3, h4, h5, h6, hx⟩ := he
    have hun : ν h.next = .un := hfr h.next (Nat.le_refl _) (by simp [Hp.new])
    obtain ⟨S, Q⟩ := fresh_sound s hun (cs := cs) (ro := false) h1 h2 (fun _ => rfl) h5 (fun i v hv => by
      obtain ⟨v', a1, a2⟩ := h6 i v hv
      exact ⟨v', a1, a2 _⟩) hx
    exact ⟨_, _, rfl, .slc _ _ _ _ _ _ _ (upd_same _ _ _) h3 (by simpa using h4), S, Q⟩
  · cases hx
end Go.Ev
