/- What it means that a world fits named blocks; loads, stores and new blocks over them. -/
import Derived.Test.YtbnojnnmjdmmoaaGreatDoorEvA
import Derived.Laws.CopyRow
namespace Go.Ev
variable [Sym]

structure TI where
  desc : TypeDesc
  size : Nat
  bytes : Nat
  zero : Value
  eqf : Option (List (Nat × Nat)) := none

/-- A world fits named blocks. -/
structure Sat (ν : Nat → Slot) (h : Hp) (w : World) : Prop where
  cells : ∀ (n : Nat) (cs : List Value) (T : TypeId) (ro : Bool) (b s : Nat), h.get n = some (.cells cs T ro) → ν n = .live b s →
    ∃ (c : Array Value) (fr : Nat × Nat), w.heap[b]? = some (.cells c T fr) ∧ (ro = false → fr = (0, 0)) ∧ c.size = s ∧ cs.length ≤ s ∧ ∀ (i : Nat) (v : Value), cs[i]? = some v → ∃ v', c[i]? = some v' ∧ VR ν v v'
  inj : ∀ (n m b s s' : Nat), ν n = .live b s → ν m = .live b s' → n = m
  bound : ∀ (n b s : Nat), ν n = .live b s → b < w.heap.size
  nodead : ∀ n, h.has n → ν n ≠ .dead
  wf : ∀ n, h.next ≤ n → h.get n = none

/-- What a piece of a run may do. -/
structure Post (ν : Nat → Slot) (h : Hp) (w : World) (ν' : Nat → Slot) (h' : Hp) (w' : World) : Prop where
  le : ∀ n, ν n ≠ .un → ν' n = ν n ∨ (ν' n = .dead ∧ h.has n)
  hi : ∀ n, (n < h.next ∨ h'.next ≤ n) → ν n = .un → ν' n = .un
  frame : ∀ b, b < w.heap.size → (∀ n s, h.has n → ν n ≠ .live b s) → w'.heap[b]? = w.heap[b]?
  dom : ∀ n b s, h'.has n → ν' n = .live b s → (∃ m s', h.has m ∧ ν m = .live b s') ∨ w.heap.size ≤ b
  keep : ∀ n, ν n = .un → n < h.next → h'.get n = h.get n
  size : w.heap.size ≤ w'.heap.size
  next : h.next ≤ h'.next
  os : w'.os = w.os
  tape : w'.tape = w.tape
  output : w'.output = w.output

section
variable {ν ν1 ν2 : Nat → Slot} {h h1 h2 : Hp} {w w1 w2 : World}

omit [Sym] in
theorem Post.Le (p : Post ν h w ν1 h1 w1) : Le ν ν1 := by
  intro n hn
  rcases p.le n hn with e | e
  · exact .inl e
  · exact .inr e.1

omit [Sym] in
theorem Post.refl (ν : Nat → Slot) (h : Hp) (w : World) : Post ν h w ν h w :=
  ⟨fun _ _ => .inl rfl, fun _ _ e => e, fun _ _ _ => rfl, fun _ _ s hh e => .inl ⟨_, s, hh, e⟩, fun _ _ _ => rfl, Nat.le_refl _, Nat.le_refl _, rfl, rfl, rfl⟩

/-- Names that come up between are free. -/
def Fresh (ν : Nat → Slot) (h h' : Hp) : Prop := ∀ n, h.next ≤ n → n < h'.next → ν n = .un
omit [Sym] in
theorem Fresh.first (f : Fresh ν h h2) (hn : h1.next ≤ h2.next) : Fresh ν h h1 := fun n a b => f n a (Nat.lt_of_lt_of_le b hn)
omit [Sym] in
theorem Fresh.second (f : Fresh ν h h2) (p : Post ν h w ν1 h1 w1) : Fresh ν1 h1 h2 := fun n a b => p.hi n (.inr a) (f n (Nat.le_trans p.next a) b)

theorem Post.trans (s : Sat ν h w) (p : Post ν h w ν1 h1 w1) (q : Post ν1 h1 w1 ν2 h2 w2) : Post ν h w ν2 h2 w2 where
  le n hn := by
    rcases p.le n hn with e | ⟨e, hh⟩
    · rcases q.le n (by rw [e]; exact hn) with e' | ⟨e', hh'⟩
      · exact .inl (e'.trans e)
      · cases hν : ν n with
        | un => exact absurd hν hn
        | dead => exact .inl e'
        | live b sz =>
          refine .inr ⟨e', ?_⟩
          rw [hν] at e
          rcases p.dom n b sz hh' e with ⟨m, s', hm, hνm⟩ | hb
          · rw [s.inj n m b sz s' hν hνm]; exact hm
          · have := s.bound n b sz hν; omega
    · rcases q.le n (by rw [e]; exact fun x => by cases x) with e' | ⟨e', _⟩
      · exact .inr ⟨e'.trans e, hh⟩
      · exact .inr ⟨e', hh⟩
  hi n hn e := by
    rcases hn with hn | hn
    · exact q.hi n (.inl (Nat.lt_of_lt_of_le hn p.next)) (p.hi n (.inl hn) e)
    · exact q.hi n (.inr hn) (p.hi n (.inr (Nat.le_trans q.next hn)) e)
  frame b hb hno := by
    rw [q.frame b (Nat.lt_of_lt_of_le hb p.size) ?_, p.frame b hb hno]
    intro n sz hh e
    rcases p.dom n b sz hh e with ⟨m, s', hm, hνm⟩ | hb'
    · exact hno m s' hm hνm
    · omega
  dom n b sz hh e := by
    rcases q.dom n b sz hh e with ⟨m, s', hm, hνm⟩ | hb
    · exact p.dom m b s' hm hνm
    · exact .inr (Nat.le_trans p.size hb)
  keep n hn hl := (q.keep n (p.hi n (.inl hl) hn) (Nat.lt_of_lt_of_le hl p.next)).trans (p.keep n hn hl)
  size := Nat.le_trans p.size q.size
  next := Nat.le_trans p.next q.next
  os := q.os.trans p.os
  tape := q.tape.trans p.tape
  output := q.output.trans p.output

/-- The count of draws doesn't count. -/
theorem Sat.drew (s : Sat ν h w) : Sat ν h w.drew := ⟨s.cells, s.inj, s.bound, s.nodead, s.wf⟩
omit [Sym] in
theorem Post.drew (ν : Nat → Slot) (h : Hp) (w : World) : Post ν h w ν h w.drew :=
  ⟨fun _ _ => .inl rfl, fun _ _ e => e, fun _ _ _ => rfl, fun _ _ s hh e => .inl ⟨_, s, hh, e⟩, fun _ _ _ => rfl, Nat.le_refl _, Nat.le_refl _, rfl, rfl, rfl⟩

/-- What variables of packages hold, on which nobody writes. -/
def Gl (ν : Nat → Slot) (h : Hp) (w : World) : Prop := ∀ g d, Sym.gl g = some d → (∃ T fr, w.heap[g]? = some (.cells d T fr)) ∧ ∀ n s, h.has n → ν n ≠ .live g s
theorem Gl.less (g : Gl ν h w) (hh : ∀ n, h1.has n → h.has n) : Gl ν h1 w := fun k d hk => ⟨(g k d hk).1, fun n s hn => (g k d hk).2 n s (hh n hn)⟩
theorem Gl.post (g : Gl ν h w) (p : Post ν h w ν1 h1 w1) : Gl ν1 h1 w1 := by
  intro k d hk
  obtain ⟨⟨T, fr, e⟩, hno⟩ := g k d hk
  have hlt : k < w.heap.size := by
    rcases Nat.lt_or_ge k w.heap.size with h | h
    · exact h
    · rw [Array.getElem?_eq_none h] at e; cases e
  refine ⟨⟨T, fr, by rw [p.frame k hlt hno]; exact e⟩, fun n s hn hs => ?_⟩
  rcases p.dom n k s hn hs with ⟨m, s', h1, h2⟩ | h1
  · exact hno m s' h1 h2
  · omega

/-! ### Inversion -/
theorem VR.ptr_inv {n off : Nat} {v' : Value} (hv : VR ν (.pointer (some ⟨n, off, none⟩)) v') :
    (∃ b s, ν n = .live b s ∧ v' = .pointer (some ⟨b, off, none⟩)) ∨ (ν n = .dead ∧ ∃ a : Addr, a.spot = none ∧ v' = .pointer (some a)) := by
  cases hv with
  | grd _ h => cases h
  | ptr _ _ b s h => exact .inl ⟨b, s, h, rfl⟩
  | ptrD _ _ a h hs => exact .inr ⟨h, a, hs, rfl⟩

theorem VR.slc_inv {n off len e : Nat} {v' : Value} (hv : VR ν (.slice (some ⟨n, off, none⟩) len e) v') :
    (∃ b s cap, ν n = .live b s ∧ len ≤ cap ∧ off + cap * e ≤ s ∧ v' = .slice (some ⟨b, off, none⟩) len cap) ∨
    (ν n = .dead ∧ ∃ (a : Addr) (cap : Nat), a.spot = none ∧ len ≤ cap ∧ v' = .slice (some a) len cap) := by
  cases hv with
  | grd _ h => cases h
  | slc _ _ _ _ b s cap h hl hc => exact .inl ⟨b, s, cap, h, hl, hc, rfl⟩
  | slcD _ _ _ _ cap a h hs hl => exact .inr ⟨h, a, cap, hs, hl, rfl⟩

theorem VR.nilslice_inv {a b : Nat} {v' : Value} (hv : VR ν (.slice none a b) v') : v' = .slice none a b ∧ a = 0 ∧ b = 0 := by
  cases hv with
  | grd _ h => simp only [gnd, Bool.and_eq_true] at h; exact ⟨rfl, Nat.eq_of_beq_eq_true h.1, Nat.eq_of_beq_eq_true h.2⟩

theorem VR.grd_inv {v v' : Value} (hv : VR ν v v') (hg : gnd v = true) : v' = v := by
  cases hv with
  | grd _ _ => rfl
  | tup cs cs' hs h =>
    simp only [gnd] at hg
    have h0 : cs.size = 0 := Nat.eq_of_beq_eq_true hg
    have h1 : cs = #[] := Array.eq_empty_of_size_eq_zero h0
    have h2 : cs' = #[] := Array.eq_empty_of_size_eq_zero (hs ▸ h0)
    rw [h1, h2]
  | _ => simp [gnd] at hg

theorem VR.agg_inv {cs : Array Value} {v' : Value} (hv : VR ν (.agg cs) v') :
    ∃ cs', v' = .agg cs' ∧ cs.size = cs'.size ∧ ∀ (i : Nat) (v u : Value), cs[i]? = some v → cs'[i]? = some u → VR ν v u := by
  cases hv with
  | grd _ h => cases h
  | agg _ cs' hs h => exact ⟨cs', rfl, hs, h⟩

theorem VR.tup_inv {cs : Array Value} {v' : Value} (hv : VR ν (.tuple cs) v') :
    ∃ cs', v' = .tuple cs' ∧ cs.size = cs'.size ∧ ∀ (i : Nat) (v u : Value), cs[i]? = some v → cs'[i]? = some u → VR ν v u := by
  cases hv with
  | grd _ h =>
    refine ⟨cs, rfl, rfl, fun i v u a b => ?_⟩
    simp only [gnd] at h
    have h1 : cs = #[] := Array.eq_empty_of_size_eq_zero (Nat.eq_of_beq_eq_true h)
    subst h1; simp at a
  | tup _ cs' hs h => exact ⟨cs', rfl, hs, h⟩

/-- One cell. -/
def flat : Value → Bool
  | .agg _ | .tuple _ => false
  | _ => true
theorem VR.oneCell {v v' : Value} (hv : VR ν v v') : flat v = true → v'.oneCell' = true := by
  cases hv
  case grd h => cases v <;> simp_all [flat, Value.oneCell']
  case sym n => exact fun _ => Sym.one n
  all_goals simp [flat, Value.oneCell']

/-- Two lists of values, one by one. -/
def LR (ν : Nat → Slot) (l l' : List Value) : Prop := l.length = l'.length ∧ ∀ (i : Nat) (v u : Value), l[i]? = some v → l'[i]? = some u → VR ν v u
theorem LR.nil : LR ν [] [] := ⟨rfl, fun i v u a _ => by simp at a⟩
theorem LR.cons {v v' : Value} {l l' : List Value} (hv : VR ν v v') (hl : LR ν l l') : LR ν (v :: l) (v' :: l') := by
  refine ⟨by simp [hl.1], fun i x u a b => ?_⟩
  cases i with
  | zero => simp at a b; subst a; subst b; exact hv
  | succ i => simp at a b; exact hl.2 i x u a b
theorem LR.mono (hle : Go.Ev.Le ν ν1) {l l' : List Value} (hl : LR ν l l') : LR ν1 l l' := ⟨hl.1, fun i v u a b => (hl.2 i v u a b).mono hle⟩
theorem LR.append {l l' r r' : List Value} (a : LR ν l l') (b : LR ν r r') : LR ν (l ++ r) (l' ++ r') := by
  refine ⟨by simp [a.1, b.1], fun i v u x y => ?_⟩
  rw [List.getElem?_append] at x y
  rw [← a.1] at y
  split at x
  · rw [if_pos ‹_›] at y; exact a.2 _ _ _ x y
  · rw [if_neg ‹_›] at y; exact b.2 _ _ _ x y
theorem sym_cells (n : Nat) : LR ν (Value.cells (.iface n .nilFunc)).toList (Sym.val n).cells.toList := by
  have h := Sym.one n
  have hv : VR ν (.iface n .nilFunc) (Sym.val n) := .sym n
  generalize Sym.val n = u at h hv
  cases u <;> first | (exact LR.cons hv LR.nil) | (simp [Value.oneCell'] at h)
theorem LR.of_cells {v v' : Value} (hv : VR ν v v') : LR ν v.cells.toList v'.cells.toList := by
  cases hv with
  | agg cs cs' hs h => exact ⟨by simpa [Value.cells] using hs, fun i v u a b => h i v u (by simpa [Value.cells] using a) (by simpa [Value.cells] using b)⟩
  | grd v h => cases v <;> first | (exact LR.cons (.grd _ h) LR.nil) | (simp [gnd] at h)
  | ptr n off b sz h => exact LR.cons (.ptr n off b sz h) LR.nil
  | ptrD n off a h hs => exact LR.cons (.ptrD n off a h hs) LR.nil
  | slc n off len e b sz cap h hl hc => exact LR.cons (.slc n off len e b sz cap h hl hc) LR.nil
  | slcD n off len e cap a h hs hl => exact LR.cons (.slcD n off len e cap a h hs hl) LR.nil
  | slc0 n off e cap a hs => exact LR.cons (.slc0 n off e cap a hs) LR.nil
  | map n b sz h => exact LR.cons (.map n b sz h) LR.nil
  | mapD n b h => exact LR.cons (.mapD n b h) LR.nil
  | tup cs cs' hs h => exact LR.cons (.tup cs cs' hs h) LR.nil
  | fn f a c a' c' hs h hs2 h2 => exact LR.cons (.fn f a c a' c' hs h hs2 h2) LR.nil
  | sym n => exact sym_cells n
theorem LR.getElem? {l l' : List Value} (hl : LR ν l l') {i : Nat} {v : Value} (hv : l[i]? = some v) : ∃ u, l'[i]? = some u ∧ VR ν v u := by
  have hi : i < l.length := (List.getElem?_eq_some_iff.1 hv).1
  have hi' : i < l'.length := hl.1 ▸ hi
  exact ⟨l'[i], List.getElem?_eq_getElem hi', hl.2 i v _ hv (List.getElem?_eq_getElem hi')⟩

/-! ### Where a name leads -/
theorem Sat.ptr (s : Sat ν h w) {n off : Nat} {v' : Value} {cs : List Value} {T : TypeId} {ro : Bool} (hv : VR ν (.pointer (some ⟨n, off, none⟩)) v') (hg : h.get n = some (.cells cs T ro)) :
    ∃ (b : Nat) (c : Array Value) (fr : Nat × Nat), ν n = .live b c.size ∧ v' = .pointer (some ⟨b, off, none⟩) ∧ w.heap[b]? = some (.cells c T fr) ∧ (ro = false → fr = (0, 0)) ∧ cs.length ≤ c.size ∧
      ∀ (i : Nat) (v : Value), cs[i]? = some v → ∃ v', c[i]? = some v' ∧ VR ν v v' := by
  rcases hv.ptr_inv with ⟨b, z, hn, rfl⟩ | ⟨hd, _⟩
  · obtain ⟨c, fr, h1, hfr, h2, h3, h4⟩ := s.cells n cs T ro b z hg hn
    subst h2
    exact ⟨b, c, fr, hn, rfl, h1, hfr, h3, h4⟩
  · exact (s.nodead n (by simp [Hp.has, hg]) hd).elim

theorem Sat.slc (s : Sat ν h w) {n off len e : Nat} {v' : Value} {cs : List Value} {T : TypeId} {ro : Bool} (hv : VR ν (.slice (some ⟨n, off, none⟩) len e) v') (hg : h.get n = some (.cells cs T ro)) :
    ∃ (b cap : Nat) (c : Array Value) (fr : Nat × Nat), ν n = .live b c.size ∧ len ≤ cap ∧ off + cap * e ≤ c.size ∧ v' = .slice (some ⟨b, off, none⟩) len cap ∧ w.heap[b]? = some (.cells c T fr) ∧ (ro = false → fr = (0, 0)) ∧ cs.length ≤ c.size ∧
      ∀ (i : Nat) (v : Value), cs[i]? = some v → ∃ v', c[i]? = some v' ∧ VR ν v v' := by
  rcases hv.slc_inv with ⟨b, z, cap, hn, hl, hc, rfl⟩ | ⟨hd, _⟩
  · obtain ⟨c, fr, h1, hfr, h2, h3, h4⟩ := s.cells n cs T ro b z hg hn
    subst h2
    exact ⟨b, cap, c, fr, hn, hl, hc, rfl, h1, hfr, h3, h4⟩
  · exact (s.nodead n (by simp [Hp.has, hg]) hd).elim

omit [Sym] in
theorem addr_add (b o n : Nat) : (⟨b, o, none⟩ : Addr).add n = ⟨b, o + n, none⟩ := by unfold Addr.add; split <;> simp_all

/-- A row is read. -/
def ldRow (h : Hp) (n off k : Nat) : Option (List Value) :=
  match h.get n with
  | some (.cells cs _ _) => let r := (cs.drop off).take k; bif Nat.beq r.length k then some r else none
  | _ => none
def ldAt (h : Hp) (n off : Nat) : Option Value :=
  match h.get n with
  | some (.cells cs _ _) => cs[off]?
  | _ => none

omit [Sym] in
theorem take_drop_get (cs : List Value) (off k j : Nat) : ((cs.drop off).take k)[j]? = if j < k then cs[off + j]? else none := by
  rw [List.getElem?_take]; split <;> simp

omit [Sym] in
/-- A row, concretely. -/
theorem row_run (P : Program) {b off k : Nat} {c : Array Value} {T : TypeId} {fr : Nat × Nat} (hb : w.heap[b]? = some (.cells c T fr)) (hk : off + k ≤ c.size) :
    (loadCells ⟨b, off, none⟩ k).run P w = .ok ((c.toList.drop off).take k).toArray w := by
  have hlen : ((c.toList.drop off).take k).length = k := by simp; omega
  have := run_loadCells_list (P := P) w ⟨b, off, none⟩ ((c.toList.drop off).take k) (fun j v hv => by
    rw [take_drop_get] at hv
    split at hv
    · rw [addr_add, cell_of_row w b (off + j) c T fr hb]; simpa using hv
    · cases hv)
  rwa [hlen] at this

theorem row_LR {cs : List Value} {c : Array Value} (hl : cs.length ≤ c.size) (hc : ∀ (i : Nat) (v : Value), cs[i]? = some v → ∃ v', c[i]? = some v' ∧ VR ν v v') {off k : Nat}
    (hk : ((cs.drop off).take k).length = k) : LR ν ((cs.drop off).take k) ((c.toList.drop off).take k) := by
  have hh : k = 0 ∨ off + k ≤ cs.length := by simp at hk; omega
  refine ⟨?_, fun i v u a b => ?_⟩
  · simp at hk ⊢
    rcases hh with rfl | hh <;> omega
  · rw [take_drop_get] at a b
    split at a
    · rw [if_pos ‹_›] at b
      obtain ⟨v', h1, h2⟩ := hc _ _ a
      have : v' = u := by simpa [h1] using b
      exact this ▸ h2
    · cases a

theorem ldAt_sound (s : Sat ν h w) {n off : Nat} {v v' : Value} (hl : ldAt h n off = some v) (hv : VR ν (.pointer (some ⟨n, off, none⟩)) v') :
    ∃ b u, v' = .pointer (some ⟨b, off, none⟩) ∧ w.cell? ⟨b, off, none⟩ = some u ∧ VR ν v u := by
  unfold ldAt at hl
  split at hl
  · rename_i cs T ro hg
    obtain ⟨b, c, fr, hn, rfl, hb, hfr, hsz, hc⟩ := s.ptr hv hg
    obtain ⟨u, h1, h2⟩ := hc _ _ hl
    exact ⟨b, u, rfl, by rw [cell_of_row w b off c T fr hb]; exact h1, h2⟩
  · cases hl

theorem ldRow_sound (P : Program) (s : Sat ν h w) {n off k : Nat} {l : List Value} {v' : Value} (hl : ldRow h n off k = some l) (hv : VR ν (.pointer (some ⟨n, off, none⟩)) v') :
    ∃ b l', v' = .pointer (some ⟨b, off, none⟩) ∧ (loadCells ⟨b, off, none⟩ k).run P w = .ok l'.toArray w ∧ LR ν l l' := by
  unfold ldRow at hl
  split at hl
  · rename_i cs T ro hg
    obtain ⟨b, c, fr, hn, rfl, hb, hfr, hsz, hc⟩ := s.ptr hv hg
    simp only at hl
    cases hq : Nat.beq ((cs.drop off).take k).length k with
    | false => rw [hq] at hl; cases hl
    | true =>
      rw [hq] at hl
      have hk := Nat.eq_of_beq_eq_true hq
      simp only [cond_true, Option.some.injEq] at hl
      subst hl
      have hLR := row_LR (ν := ν) hsz hc hk
      by_cases h0 : k = 0
      · subst h0
        refine ⟨b, [], rfl, by simp [loadCells, loadCellsFrom], by simpa using LR.nil⟩
      · have : off + k ≤ c.size := by simp at hk; omega
        exact ⟨b, _, rfl, row_run P hb this, hLR⟩
  · cases hl

end
end Go.Ev
