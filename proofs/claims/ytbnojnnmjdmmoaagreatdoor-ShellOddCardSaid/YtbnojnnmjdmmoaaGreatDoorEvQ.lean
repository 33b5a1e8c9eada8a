/- Regions that draw their order: sound. -/
import Derived.Test.YtbnojnnmjdmmoaaGreatDoorEvP
namespace Go.Ev
variable [Sym]

/-! ### The list of the rest -/
omit [Sym] in
theorem wsOf_spec : ∀ (L : List Oper) (rs : List Rc) (s : Nat),
    (∀ (k i : Nat) (h : Hp), (wsOf L rs s)[k]? = some (i, h) → ∃ j o r, i = s + j ∧ L[j]? = some o ∧ rs[j]? = some r ∧ knd o r = 3 ∧ h = r.h) ∧
    (∀ (k k' i i' : Nat) (h h' : Hp), k < k' → (wsOf L rs s)[k]? = some (i, h) → (wsOf L rs s)[k']? = some (i', h') → i < i') ∧
    (∀ (j : Nat) (o : Oper) (r : Rc), L[j]? = some o → rs[j]? = some r → knd o r = 3 → ∃ k : Nat, (wsOf L rs s)[k]? = some (s + j, r.h))
  | [], rs, s => by
    refine ⟨fun k i h hk => ?_, fun k k' i i' h h' _ hk => ?_, fun j o r ho => ?_⟩
    · simp [wsOf] at hk
    · simp [wsOf] at hk
    · simp at ho
  | o0 :: L, [], s => by
    refine ⟨fun k i h hk => ?_, fun k k' i i' h h' _ hk => ?_, fun j o r _ hr => ?_⟩
    · simp [wsOf] at hk
    · simp [wsOf] at hk
    · simp at hr
  | o0 :: L, r0 :: rs, s => by
    obtain ⟨a, b, c⟩ := wsOf_spec L rs (s + 1)
    cases hz : Nat.beq (knd o0 r0) 3 with
    | false =>
      have e : wsOf (o0 :: L) (r0 :: rs) s = wsOf L rs (s + 1) := by simp [wsOf, hz]
      rw [e]
      refine ⟨fun k i h hk => ?_, b, fun j o r ho hr hk => ?_⟩
      · obtain ⟨j, o, r, h1, h2, h3, h4⟩ := a k i h hk
        exact ⟨j + 1, o, r, by omega, by simpa using h2, by simpa using h3, h4⟩
      · cases j with
        | zero => simp at ho hr; subst ho; subst hr; rw [hk] at hz; cases hz
        | succ j =>
          obtain ⟨k, hk'⟩ := c j o r (by simpa using ho) (by simpa using hr) hk
          exact ⟨k, by rw [hk']; congr 2; omega⟩
    | true =>
      have e : wsOf (o0 :: L) (r0 :: rs) s = (s, r0.h) :: wsOf L rs (s + 1) := by simp [wsOf, hz]
      rw [e]
      refine ⟨fun k i h hk => ?_, fun k k' i i' h h' hlt hk hk' => ?_, fun j o r ho hr hkn => ?_⟩
      · cases k with
        | zero =>
          simp at hk
          exact ⟨0, o0, r0, by omega, rfl, rfl, Nat.eq_of_beq_eq_true hz, hk.2.symm⟩
        | succ k =>
          obtain ⟨j, o, r, h1, h2, h3, h4⟩ := a k i h (by simpa using hk)
          exact ⟨j + 1, o, r, by omega, by simpa using h2, by simpa using h3, h4⟩
      · cases k' with
        | zero => omega
        | succ k' =>
          have hk'' : (wsOf L rs (s + 1))[k']? = some (i', h') := by simpa using hk'
          cases k with
          | zero =>
            simp at hk
            obtain ⟨j, _, _, h1, _⟩ := a k' i' h' hk''
            omega
          | succ k => exact b k k' i i' h h' (by omega) (by simpa using hk) hk''
      · cases j with
        | zero => simp at ho hr; subst ho; subst hr; exact ⟨0, rfl⟩
        | succ j =>
          obtain ⟨k, hk'⟩ := c j o r (by simpa using ho) (by simpa using hr) hkn
          exact ⟨k + 1, by simp only [List.getElem?_cons_succ]; rw [hk']; congr 2; omega⟩

omit [Sym] in
theorem chain_spec {M : List Nat} : ∀ {ws : List (Nat × Hp)}, chain M ws = true → ∀ (k i i' : Nat) (h h' : Hp), ws[k]? = some (i, h) → ws[k + 1]? = some (i', h') → (M.getD i' 0).testBit i = true
  | [], _, k, i, i', h, h', hk, _ => by simp at hk
  | [a], _, k, i, i', h, h', _, hk => by simp at hk
  | a :: b :: r, hc, k, i, i', h, h', hk, hk' => by
    simp only [chain, Bool.and_eq_true] at hc
    cases k with
    | zero => simp at hk hk'; subst hk; subst hk'; exact hc.1
    | succ k => exact chain_spec hc.2 k i i' h h' (by simpa using hk) (by simpa using hk')

omit [Sym] in
theorem may_spec {M : List Nat} {i k : Nat} : ∀ {ws : List (Nat × Hp)} {j : Nat}, (∀ (q w : Nat) (h : Hp), ws[q]? = some (w, h) → (j + q < k → (M.getD w 0).testBit i = false) ∧ (k ≤ j + q → (M.getD i 0).testBit w = false)) → may M i k ws j = true
  | [], _, _ => rfl
  | (w, h) :: r, j, hh => by
    simp only [may, Bool.and_eq_true]
    have h0 := hh 0 w h rfl
    refine ⟨?_, may_spec fun q w' h' hq => ?_⟩
    · cases hb : Nat.blt j k with
      | true => simp only [cond_true]; rw [h0.1 (by simpa [Nat.blt_eq] using hb)]; rfl
      | false =>
        simp only [cond_false]
        rw [h0.2 (by have : ¬ j < k := fun x => by rw [← Nat.blt_eq] at x; rw [x] at hb; cases hb
                     omega)]; rfl
    · have := hh (q + 1) w' h' (by simpa using hq)
      rwa [show j + (q + 1) = j + 1 + q by omega] at this

omit [Sym] in
theorem dynRs_spec {T : TT} {M : List Nat} {ws : List (Nat × Hp)} {X : List Hp} : ∀ {L : List Oper} {rs : List Rc} {s : Nat}, dynRs T M ws X L rs s = true → ∀ (j : Nat) (o : Oper) (r : Rc), L[j]? = some o → rs[j]? = some r → knd o r = 1 → dynR T M ws X (s + j) o r = true
  | [], _, _, _, j, o, r, h, _, _ => by simp at h
  | _ :: _, [], _, _, j, o, r, _, h, _ => by simp at h
  | o0 :: L, r0 :: rs, s, hd, j, o, r, ho, hr, hk => by
    simp only [dynRs, Bool.and_eq_true] at hd
    cases j with
    | zero =>
      simp at ho hr; subst ho; subst hr
      have := hd.1
      rw [hk] at this
      simpa using this
    | succ j =>
      have := dynRs_spec hd.2 j o r (by simpa using ho) (by simpa using hr) hk
      rwa [show s + 1 + j = s + (j + 1) by omega] at this

omit [Sym] in
theorem countB_spec {i : Nat} : ∀ {ws : List (Nat × Hp)}, (∀ (k k' a b : Nat) (h h' : Hp), k < k' → ws[k]? = some (a, h) → ws[k']? = some (b, h') → a < b) →
    ∀ k : Nat, k ≤ ws.length → (∀ (q w : Nat) (h : Hp), ws[q]? = some (w, h) → (q < k ↔ w < i)) → countB ws i = k
  | [], _, k, hk, _ => by simp at hk; simp [countB, hk]
  | (w, h) :: r, hs, k, hk, hh => by
    have hs' : ∀ (k k' a b : Nat) (h h' : Hp), k < k' → r[k]? = some (a, h) → r[k']? = some (b, h') → a < b := fun k k' a b h h' hl h1 h2 => hs (k + 1) (k' + 1) a b h h' (by omega) (by simpa using h1) (by simpa using h2)
    simp only [countB]
    have h0 := hh 0 w h rfl
    cases hb : Nat.blt w i with
    | true =>
      have hw : w < i := by simpa [Nat.blt_eq] using hb
      have hk0 := h0.2 hw
      simp only [cond_true]
      rw [countB_spec (i := i) hs' (k - 1) (by simp at hk; omega) (fun q w' h' hq => by
        have := hh (q + 1) w' h' (by simpa using hq)
        constructor
        · intro hl; exact this.1 (by omega)
        · intro hl; have := this.2 hl; omega)]
      omega
    | false =>
      have hw : ¬ w < i := fun x => by rw [← Nat.blt_eq] at x; rw [x] at hb; cases hb
      have hk0 : k = 0 := by
        rcases Nat.eq_zero_or_pos k with e | e
        · exact e
        · exact absurd (h0.1 e) hw
      simp only [cond_false]
      rw [hk0, countB_spec (i := i) hs' 0 (by omega) (fun q w' h' hq => by
        have hlt := hs 0 (q + 1) w w' h h' (by omega) rfl (by simpa using hq)
        constructor
        · intro hl; omega
        · intro hl; omega)]

/-! ### What is done of a region -/
def Held (ν : Nat → Slot) (w : World) (n : Nat) : Blk → Prop
  | .cells cs T ro => ∃ (b : Nat) (c : Array Value) (fr : Nat × Nat), ν n = .live b c.size ∧ w.heap[b]? = some (.cells c T fr) ∧ (ro = false → fr = (0, 0)) ∧ cs.length ≤ c.size ∧
      ∀ (i : Nat) (v : Value), cs[i]? = some v → ∃ v', c[i]? = some v' ∧ VR ν v v'
  | .map _ => ∃ b s, ν n = .live b s

structure PC (ν : Nat → Slot) (h : Hp) (w : World) (ν' : Nat → Slot) (h' : Hp) (w' : World) (lo hi : Nat) : Prop where
  le : ∀ n, ν n ≠ .un → ν' n = ν n ∨ (ν' n = .dead ∧ h.has n)
  hi : ∀ n, (n < lo ∨ hi ≤ n) → ν n = .un → ν' n = .un
  frame : ∀ b, b < w.heap.size → (∀ n s, h.has n → ν n ≠ .live b s) → w'.heap[b]? = w.heap[b]?
  dom : ∀ n b s, h'.has n → ν' n = .live b s → (∃ m s', h.has m ∧ ν m = .live b s') ∨ w.heap.size ≤ b
  keep : ∀ n, ν n = .un → n < lo → h'.get n = h.get n
  size : w.heap.size ≤ w'.heap.size
  os : w'.os = w.os
  tape : w'.tape = w.tape
  output : w'.output = w.output

omit [Sym] in
theorem PC.Le {ν ν' : Nat → Slot} {h h' : Hp} {w w' : World} {lo hi : Nat} (p : PC ν h w ν' h' w' lo hi) : Le ν ν' := by
  intro n hn
  rcases p.le n hn with e | e
  · exact .inl e
  · exact .inr e.1

omit [Sym] in
theorem Post.toPC {ν ν' : Nat → Slot} {h h' : Hp} {w w' : World} (p : Post ν h w ν' h' w') {hi : Nat} (hh : h'.next ≤ hi) : PC ν h w ν' h' w' h.next hi :=
  ⟨p.le, fun n hn => p.hi n (hn.imp id (Nat.le_trans hh)), p.frame, p.dom, p.keep, p.size, p.os, p.tape, p.output⟩

theorem Gl.pc {ν ν' : Nat → Slot} {h h' : Hp} {w w' : World} {lo hi : Nat} (g : Gl ν h w) (p : PC ν h w ν' h' w' lo hi) : Gl ν' h' w' := by
  intro k d hk
  obtain ⟨⟨T, fr, e⟩, hno⟩ := g k d hk
  have hlt : k < w.heap.size := by
    rcases Nat.lt_or_ge k w.heap.size with h | h
    · exact h
    · rw [Array.getElem?_eq_none h] at e; cases e
  refine ⟨⟨T, fr, by rw [p.frame k hlt hno]; exact e⟩, fun n s hn hs => ?_⟩
  rcases p.dom n k s hn hs with ⟨m, s', h1, h2⟩ | h1
  · exact hno m s' h1 h2
  · omega

/-- Another piece behind it. -/
theorem PC.then {ν ν1 ν2 : Nat → Slot} {h h1 h2 : Hp} {w w1 w2 : World} {lo hi : Nat} (s : Sat ν h w) (p : PC ν h w ν1 h1 w1 lo hi) (q : Post ν1 h1 w1 ν2 h2 w2) (hlo : lo ≤ h1.next) (hhi : h2.next ≤ hi) : PC ν h w ν2 h2 w2 lo hi where
  le n hn := by
    rcases p.le n hn with e | ⟨e, hh⟩
    · rcases q.le n (by rw [e]; exact hn) with e' | ⟨e', hh'⟩
      · exact .inl (e'.trans e)
      · cases hν : ν n with
        | un => exact absurd hν hn
        | dead => exact .inl e'
        | live b sz =>
          refine .inr ⟨e', ?_⟩
          rw [hν] at e
          rcases p.dom n b sz hh' e with ⟨m, s', hm, hνm⟩ | hb
          · rw [s.inj n m b sz s' hν hνm]; exact hm
          · have := s.bound n b sz hν; omega
    · rcases q.le n (by rw [e]; exact fun x => by cases x) with e' | ⟨e', _⟩
      · exact .inr ⟨e'.trans e, hh⟩
      · exact .inr ⟨e', hh⟩
  hi n hn e := q.hi n (hn.imp (fun x => Nat.lt_of_lt_of_le x hlo) (Nat.le_trans hhi)) (p.hi n hn e)
  frame b hb hno := by
    rw [q.frame b (Nat.lt_of_lt_of_le hb p.size) ?_, p.frame b hb hno]
    intro n sz hh e
    rcases p.dom n b sz hh e with ⟨m, s', hm, hνm⟩ | hb'
    · exact hno m s' hm hνm
    · omega
  dom n b sz hh e := by
    rcases q.dom n b sz hh e with ⟨m, s', hm, hνm⟩ | hb
    · exact p.dom m b s' hm hνm
    · exact .inr (Nat.le_trans p.size hb)
  keep n hn hl := (q.keep n (p.hi n (.inl hl) hn) (Nat.lt_of_lt_of_le hl hlo)).trans (p.keep n hn hl)
  size := Nat.le_trans p.size q.size
  os := q.os.trans p.os
  tape := q.tape.trans p.tape
  output := q.output.trans p.output
end Go.Ev
