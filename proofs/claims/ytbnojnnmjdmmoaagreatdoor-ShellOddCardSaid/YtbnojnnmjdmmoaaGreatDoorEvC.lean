/- New blocks, stores. -/
import Derived.Test.YtbnojnnmjdmmoaaGreatDoorEvB
namespace Go.Ev
variable [Sym]

def upd (ν : Nat → Slot) (n : Nat) (s : Slot) : Nat → Slot := fun m => if m = n then s else ν m
omit [Sym] in
theorem upd_same (ν : Nat → Slot) (n : Nat) (s : Slot) : upd ν n s n = s := by simp [upd]
omit [Sym] in
theorem upd_other (ν : Nat → Slot) {n m : Nat} (s : Slot) (h : m ≠ n) : upd ν n s m = ν m := by simp [upd, h]
omit [Sym] in
theorem upd_Le {ν : Nat → Slot} {n : Nat} (s : Slot) (h : ν n = .un) : Le ν (upd ν n s) := by
  intro m hm
  by_cases e : m = n
  · subst e; exact absurd h hm
  · exact .inl (upd_other ν s e)

def setAt : Nat → List Value → List Value → Option (List Value)
  | 0, [], cs => some cs
  | 0, v :: vs, _ :: cs => match setAt 0 vs cs with | some r => some (v :: r) | none => none
  | 0, _ :: _, [] => none
  | n + 1, vs, c :: cs => match setAt n vs cs with | some r => some (c :: r) | none => none
  | _ + 1, _, [] => none

omit [Sym] in
theorem setAt_spec : ∀ (n : Nat) (vs cs r : List Value), setAt n vs cs = some r →
    r.length = cs.length ∧ n + vs.length ≤ cs.length ∧ ∀ i : Nat, r[i]? = if n ≤ i ∧ i < n + vs.length then vs[i - n]? else cs[i]?
  | 0, [], cs, r, h => by
    simp only [setAt, Option.some.injEq] at h; subst h
    exact ⟨rfl, by simp, fun i => by simp⟩
  | 0, v :: vs, [], r, h => by simp [setAt] at h
  | 0, v :: vs, c :: cs, r, h => by
    simp only [setAt] at h
    split at h
    · rename_i r' h'
      simp only [Option.some.injEq] at h; subst h
      obtain ⟨h1, h2, h3⟩ := setAt_spec 0 vs cs r' h'
      refine ⟨by simp [h1], by simp at h2 ⊢; omega, fun i => ?_⟩
      cases i with
      | zero => simp
      | succ i =>
        have := h3 i
        simp only [Nat.zero_le, true_and, Nat.zero_add, Nat.sub_zero] at this
        simp [this]
    · cases h
  | n + 1, vs, [], r, h => by simp [setAt] at h
  | n + 1, vs, c :: cs, r, h => by
    simp only [setAt] at h
    split at h
    · rename_i r' h'
      simp only [Option.some.injEq] at h; subst h
      obtain ⟨h1, h2, h3⟩ := setAt_spec n vs cs r' h'
      refine ⟨by simp [h1], by simp at h2 ⊢; omega, fun i => ?_⟩
      cases i with
      | zero => simp
      | succ i =>
        have := h3 i
        have e : (n + 1 ≤ i + 1 ∧ i + 1 < n + 1 + vs.length) ↔ (n ≤ i ∧ i < n + vs.length) := by omega
        simp only [List.getElem?_cons_succ, this, e, Nat.add_sub_add_right]
    · cases h

section
variable {ν ν1 : Nat → Slot} {h h1 : Hp} {w w1 : World}

/-- A new block. -/
theorem new_sound (s : Sat ν h w) (hf : ν h.next = .un) {cs : List Value} {c : Array Value} (T : TypeId) (ro : Bool) (fr : Nat × Nat) (hro : ro = false → fr = (0, 0)) (hl : cs.length ≤ c.size)
    (hc : ∀ (i : Nat) (v : Value), cs[i]? = some v → ∃ v', c[i]? = some v' ∧ VR ν v v') :
    Sat (upd ν h.next (.live w.heap.size c.size)) (h.new (.cells cs T ro)) (w.alloc (.cells c T fr)) ∧
    Post ν h w (upd ν h.next (.live w.heap.size c.size)) (h.new (.cells cs T ro)) (w.alloc (.cells c T fr)) := by
  have hle : Le ν (upd ν h.next (.live w.heap.size c.size)) := upd_Le _ hf
  refine ⟨⟨?_, ?_, ?_, ?_, ?_⟩, ⟨?_, ?_, ?_, ?_, ?_, ?_, ?_, rfl, rfl, rfl⟩⟩
  · intro n ds D ro' b z hg hn
    rw [Hp.get_new] at hg
    split at hg
    · rename_i e; subst e
      rw [upd_same] at hn
      simp only [Option.some.injEq, Blk.cells.injEq] at hg
      obtain ⟨rfl, rfl, rfl⟩ := hg
      simp only [Slot.live.injEq] at hn
      obtain ⟨rfl, rfl⟩ := hn
      refine ⟨c, fr, heap_alloc_new w _, hro, rfl, hl, fun i v hv => ?_⟩
      obtain ⟨v', h1, h2⟩ := hc i v hv
      exact ⟨v', h1, h2.mono hle⟩
    · rename_i e
      rw [upd_other ν _ e] at hn
      obtain ⟨c', fr', h1, hfr, h2, h3, h4⟩ := s.cells n ds D ro' b z hg hn
      refine ⟨c', fr', by rw [heap_alloc_old w _ b (s.bound n b z hn)]; exact h1, hfr, h2, h3, fun i v hv => ?_⟩
      obtain ⟨v', h5, h6⟩ := h4 i v hv
      exact ⟨v', h5, h6.mono hle⟩
  · intro n m b z z' hn hm
    unfold upd at hn hm
    split at hn <;> split at hm
    · simp_all
    · simp only [Slot.live.injEq] at hn; have := s.bound m b z' hm; omega
    · simp only [Slot.live.injEq] at hm; have := s.bound n b z hn; omega
    · exact s.inj n m b z z' hn hm
  · intro n b z hn
    unfold upd at hn
    simp only [World.size_alloc]
    split at hn
    · simp only [Slot.live.injEq] at hn; omega
    · have := s.bound n b z hn; omega
  · intro n hh
    unfold Hp.has at hh
    rw [Hp.get_new] at hh
    unfold upd
    split
    · exact fun x => by cases x
    · rename_i e; rw [if_neg e] at hh; exact s.nodead n hh
  · intro n hn
    have hn' : h.next + 1 ≤ n := hn
    rw [Hp.get_new, if_neg (by omega)]
    exact s.wf n (by omega)
  · intro n hn
    by_cases e : n = h.next
    · subst e; exact absurd hf hn
    · exact .inl (upd_other ν _ e)
  · intro n hn e
    have : n ≠ h.next := by simp [Hp.new] at hn; omega
    rw [upd_other ν _ this]; exact e
  · intro b hb _
    exact heap_alloc_old w _ b hb
  · intro n b z hh hn
    unfold Hp.has at hh
    rw [Hp.get_new] at hh
    unfold upd at hn
    split at hn
    · simp only [Slot.live.injEq] at hn; exact .inr (by omega)
    · rename_i e; rw [if_neg e] at hh; exact .inl ⟨n, z, hh, hn⟩
  · intro n _ hl
    rw [Hp.get_new, if_neg (by omega)]
  · simp
  · simp [Hp.new]

/-- A new map. -/
theorem newMap_sound (s : Sat ν h w) (hf : ν h.next = .un) :
    Sat (upd ν h.next (.live w.heap.size 0)) (h.new (.map [])) (w.alloc (.map #[] 0)) ∧
    Post ν h w (upd ν h.next (.live w.heap.size 0)) (h.new (.map [])) (w.alloc (.map #[] 0)) := by
  have hle : Le ν (upd ν h.next (.live w.heap.size 0)) := upd_Le _ hf
  refine ⟨⟨?_, ?_, ?_, ?_, ?_⟩, ⟨?_, ?_, ?_, ?_, ?_, ?_, ?_, rfl, rfl, rfl⟩⟩
  · intro n ds D ro' b z hg hn
    rw [Hp.get_new] at hg
    split at hg
    · cases hg
    · rename_i e
      rw [upd_other ν _ e] at hn
      obtain ⟨c', fr', h1, hfr, h2, h3, h4⟩ := s.cells n ds D ro' b z hg hn
      refine ⟨c', fr', by rw [heap_alloc_old w _ b (s.bound n b z hn)]; exact h1, hfr, h2, h3, fun i v hv => ?_⟩
      obtain ⟨v', h5, h6⟩ := h4 i v hv
      exact ⟨v', h5, h6.mono hle⟩
  · intro n m b z z' hn hm
    unfold upd at hn hm
    split at hn <;> split at hm
    · simp_all
    · simp only [Slot.live.injEq] at hn; have := s.bound m b z' hm; omega
    · simp only [Slot.live.injEq] at hm; have := s.bound n b z hn; omega
    · exact s.inj n m b z z' hn hm
  · intro n b z hn
    unfold upd at hn
    simp only [World.size_alloc]
    split at hn
    · simp only [Slot.live.injEq] at hn; omega
    · have := s.bound n b z hn; omega
  · intro n hh
    unfold Hp.has at hh
    rw [Hp.get_new] at hh
    unfold upd
    split
    · exact fun x => by cases x
    · rename_i e; rw [if_neg e] at hh; exact s.nodead n hh
  · intro n hn
    have hn' : h.next + 1 ≤ n := hn
    rw [Hp.get_new, if_neg (by omega)]
    exact s.wf n (by omega)
  · intro n hn
    by_cases e : n = h.next
    · subst e; exact absurd hf hn
    · exact .inl (upd_other ν _ e)
  · intro n hn e
    have : n ≠ h.next := by simp [Hp.new] at hn; omega
    rw [upd_other ν _ this]; exact e
  · intro b hb _
    exact heap_alloc_old w _ b hb
  · intro n b z hh hn
    unfold Hp.has at hh
    rw [Hp.get_new] at hh
    unfold upd at hn
    split at hn
    · simp only [Slot.live.injEq] at hn; exact .inr (by omega)
    · rename_i e; rw [if_neg e] at hh; exact .inl ⟨n, z, hh, hn⟩
  · intro n _ hl
    rw [Hp.get_new, if_neg (by omega)]
  · simp
  · simp [Hp.new]

/-- Cells of a block become others. -/
theorem put_sound (s : Sat ν h w) {n b off : Nat} {cs cs2 vs vs' : List Value} {T : TypeId} {c : Array Value} (hg : h.get n = some (.cells cs T false)) (hn : ν n = .live b c.size)
    (hb : w.heap[b]? = some (.cells c T (0, 0))) (hset : setAt off vs cs = some cs2) (hLR : LR ν vs vs') :
    Sat ν (h.put n (.cells cs2 T false)) (w.setRow b (c.toList.take off ++ vs' ++ c.toList.drop (off + vs'.length)).toArray) ∧
    Post ν h w ν (h.put n (.cells cs2 T false)) (w.setRow b (c.toList.take off ++ vs' ++ c.toList.drop (off + vs'.length)).toArray) := by
  obtain ⟨c0, fr0, hb0, _, hz, hlc, hc⟩ := s.cells n cs T false b _ hg hn
  have : c0 = c := by rw [hb] at hb0; simp only [Option.some.injEq, Obj.cells.injEq] at hb0; exact hb0.1.symm
  subst this
  obtain ⟨hr1, hr2, hr3⟩ := setAt_spec off vs cs cs2 hset
  have hsz : (c0.toList.take off ++ vs' ++ c0.toList.drop (off + vs'.length)).length = c0.size := by
    have := hLR.1; simp; omega
  refine ⟨⟨?_, s.inj, ?_, ?_, ?_⟩, ⟨fun _ _ => .inl rfl, fun _ _ e => e, ?_, ?_, ?_, ?_, ?_, rfl, rfl, rfl⟩⟩
  · intro m ds D ro' b' z hg' hm
    rw [Hp.get_put] at hg'
    split at hg'
    · rename_i e; subst e
      simp only [Option.some.injEq, Blk.cells.injEq] at hg'
      obtain ⟨rfl, rfl, rfl⟩ := hg'
      rw [hn] at hm
      simp only [Slot.live.injEq] at hm
      obtain ⟨rfl, rfl⟩ := hm
      refine ⟨_, _, setRow_heap w b c0 _ T _ hb, fun _ => rfl, by simpa using hsz, by omega, fun i v hv => ?_⟩
      rw [hr3 i] at hv
      simp only [List.getElem?_toArray]
      split at hv
      · rename_i hi
        obtain ⟨u, hu, hvu⟩ := hLR.getElem? hv
        refine ⟨u, ?_, hvu⟩
        rw [List.append_assoc, List.getElem?_append_right (by simp; omega), List.getElem?_append_left (by have := hLR.1; simp; omega)]
        rw [← hu]; congr 1; simp; omega
      · rename_i hi
        obtain ⟨u, hu, hvu⟩ := hc i v hv
        refine ⟨u, ?_, hvu⟩
        have hil : i < cs.length := (List.getElem?_eq_some_iff.1 hv).1
        by_cases hio : i < off
        · rw [List.append_assoc, List.getElem?_append_left (by simp; omega), List.getElem?_take, if_pos hio]
          simpa using hu
        · have := hLR.1
          rw [List.getElem?_append_right (by simp; omega), List.getElem?_drop]
          rw [← hu]
          simp only [List.length_append, List.length_take, Array.length_toList, Array.getElem?_toList]
          congr 1; omega
    · rename_i e
      obtain ⟨c', fr', h1, hfr, h2, h3, h4⟩ := s.cells m ds D ro' b' z hg' hm
      have hbne : b' ≠ b := fun e' => e (s.inj m n b' z c0.size hm (e' ▸ hn))
      exact ⟨c', fr', by rw [setRow_other w b b' _ hbne]; exact h1, hfr, h2, h3, h4⟩
  · intro m b' z hm
    rw [size_setRow]; exact s.bound m b' z hm
  · intro m hh
    unfold Hp.has at hh
    rw [Hp.get_put] at hh
    by_cases e : m = n
    · subst e; rw [hn]; exact fun x => by cases x
    · rw [if_neg e] at hh; exact s.nodead m hh
  · intro m hm
    have hm' : h.next ≤ m := hm
    have : m ≠ n := fun e => by have := s.wf m hm'; rw [e, hg] at this; cases this
    rw [Hp.get_put, if_neg this]
    exact s.wf m hm'
  · intro b' hb' hno
    exact setRow_other w b b' _ (fun e => hno n c0.size (by simp [Hp.has, hg]) (e ▸ hn))
  · intro m b' z hh hm
    by_cases e : m = n
    · subst e; exact .inl ⟨m, z, by simp [Hp.has, hg], hm⟩
    · unfold Hp.has at hh
      rw [Hp.get_put, if_neg e] at hh
      exact .inl ⟨m, z, hh, hm⟩
  · intro m hm _
    rw [Hp.get_put, if_neg (fun e => by rw [e, hn] at hm; cases hm)]
  · rw [size_setRow]; exact Nat.le_refl _
  · exact Nat.le_refl _

/-- A name ends; another one has its block, with other cells (all that is known of it). -/
theorem again_sound (s : Sat ν h w) (hf : ν h.next = .un) {n b : Nat} {cs cs2 : List Value} {T : TypeId} {c c2 : Array Value} (hg : h.get n = some (.cells cs T false)) (hn : ν n = .live b c.size)
    (hb : w.heap[b]? = some (.cells c T (0, 0))) (hsz : c2.size = c.size) (hl : cs2.length ≤ c2.size)
    (hc : ∀ (i : Nat) (v : Value), cs2[i]? = some v → ∃ v', c2[i]? = some v' ∧ VR ν v v') :
    Sat (upd (upd ν n .dead) h.next (.live b c.size)) ((h.kill n).new (.cells cs2 T false)) (w.setRow b c2) ∧
    Post ν h w (upd (upd ν n .dead) h.next (.live b c.size)) ((h.kill n).new (.cells cs2 T false)) (w.setRow b c2) := by
  have hne : n ≠ h.next := fun e => by rw [e, hf] at hn; cases hn
  have hk : (h.kill n).next = h.next := rfl
  have hle : Le ν (upd (upd ν n .dead) h.next (.live b c.size)) := by
    intro m hm
    by_cases e : m = h.next
    · subst e; exact absurd hf hm
    · rw [upd_other _ _ e]
      by_cases e' : m = n
      · subst e'; rw [upd_same]; exact .inr rfl
      · rw [upd_other _ _ e']; exact .inl rfl
  have hget : ∀ m, ((h.kill n).new (.cells cs2 T false)).get m = if m = h.next then some (.cells cs2 T false) else if m = n then none else h.get m := by
    intro m; rw [Hp.get_new, hk]; split
    · rfl
    · rw [Hp.get_kill]
  have hν : ∀ m, upd (upd ν n .dead) h.next (.live b c.size) m = if m = h.next then .live b c.size else if m = n then .dead else ν m := by
    intro m; unfold upd; rfl
  refine ⟨⟨?_, ?_, ?_, ?_, ?_⟩, ⟨?_, ?_, ?_, ?_, ?_, ?_, ?_, rfl, rfl, rfl⟩⟩
  · intro m ds D ro' b' z hg' hm
    rw [hget] at hg'
    rw [hν] at hm
    split at hg'
    · rename_i e
      rw [if_pos e] at hm
      simp only [Option.some.injEq, Blk.cells.injEq] at hg'
      obtain ⟨rfl, rfl, rfl⟩ := hg'
      simp only [Slot.live.injEq] at hm
      obtain ⟨rfl, rfl⟩ := hm
      refine ⟨c2, _, setRow_heap w b c c2 T _ hb, fun _ => rfl, hsz, by omega, fun i v hv => ?_⟩
      obtain ⟨v', h1, h2⟩ := hc i v hv
      exact ⟨v', h1, h2.mono hle⟩
    · rename_i e
      rw [if_neg e] at hm
      split at hg'
      · cases hg'
      · rename_i e'
        rw [if_neg e'] at hm
        obtain ⟨c', fr', h1, hfr, h2, h3, h4⟩ := s.cells m ds D ro' b' z hg' hm
        have hbne : b' ≠ b := fun x => e' (s.inj m n b' z c.size hm (x ▸ hn))
        refine ⟨c', fr', by rw [setRow_other w b b' _ hbne]; exact h1, hfr, h2, h3, fun i v hv => ?_⟩
        obtain ⟨v', h5, h6⟩ := h4 i v hv
        exact ⟨v', h5, h6.mono hle⟩
  · intro m k b' z z' hm hk'
    rw [hν] at hm hk'
    split at hm <;> split at hk'
    · simp_all
    · rename_i e e'
      simp only [Slot.live.injEq] at hm
      obtain ⟨rfl, rfl⟩ := hm
      split at hk'
      · cases hk'
      · rename_i e2; exact absurd (s.inj k n b z' c.size hk' hn) e2
    · rename_i e e'
      simp only [Slot.live.injEq] at hk'
      obtain ⟨rfl, rfl⟩ := hk'
      split at hm
      · cases hm
      · rename_i e2; exact absurd (s.inj m n b z c.size hm hn) e2
    · split at hm
      · cases hm
      · split at hk'
        · cases hk'
        · exact s.inj m k b' z z' hm hk'
  · intro m b' z hm
    rw [hν] at hm
    rw [size_setRow]
    split at hm
    · simp only [Slot.live.injEq] at hm; have := s.bound n b _ hn; omega
    · split at hm
      · cases hm
      · exact s.bound m b' z hm
  · intro m hh
    unfold Hp.has at hh
    rw [hget] at hh
    rw [hν]
    split
    · exact fun x => by cases x
    · rename_i e
      rw [if_neg e] at hh
      split
      · rename_i e'; rw [if_pos e'] at hh; cases hh
      · rename_i e'; rw [if_neg e'] at hh; exact s.nodead m hh
  · intro m hm
    have hm' : h.next + 1 ≤ m := hm
    rw [hget, if_neg (by omega)]
    split
    · rfl
    · exact s.wf m (by omega)
  · intro m hm
    rw [hν]
    by_cases e : m = h.next
    · subst e; exact absurd hf hm
    · rw [if_neg e]
      by_cases e' : m = n
      · subst e'; exact .inr ⟨by simp, by simp [Hp.has, hg]⟩
      · rw [if_neg e']; exact .inl rfl
  · intro m hm e
    have h1 : m ≠ h.next := by simp [Hp.new, Hp.kill] at hm; omega
    have h2 : m ≠ n := fun x => by rw [x, hn] at e; cases e
    rw [hν, if_neg h1, if_neg h2]; exact e
  · intro b' hb' hno
    exact setRow_other w b b' _ (fun e => hno n c.size (by simp [Hp.has, hg]) (e ▸ hn))
  · intro m b' z hh hm
    rw [hν] at hm
    split at hm
    · simp only [Slot.live.injEq] at hm
      exact .inl ⟨n, c.size, by simp [Hp.has, hg], by rw [hn, hm.1]⟩
    · rename_i e
      split at hm
      · cases hm
      · rename_i e'
        unfold Hp.has at hh
        rw [hget, if_neg e, if_neg e'] at hh
        exact .inl ⟨m, z, hh, hm⟩
  · intro m hm hl'
    rw [hget, if_neg (by omega), if_neg (fun x => by rw [x, hn] at hm; cases hm)]
  · rw [size_setRow]; exact Nat.le_refl _
  · simp [Hp.new, Hp.kill]

/-- A name ends. -/
theorem kill_sound (s : Sat ν h w) {n : Nat} (hh : h.has n) (hn : ν n ≠ .un) : Sat (upd ν n .dead) (h.kill n) w ∧ Post ν h w (upd ν n .dead) (h.kill n) w := by
  have hle : Le ν (upd ν n .dead) := by
    intro m _
    by_cases e : m = n
    · subst e; rw [upd_same]; exact .inr rfl
    · rw [upd_other _ _ e]; exact .inl rfl
  refine ⟨⟨?_, ?_, ?_, ?_, ?_⟩, ⟨?_, ?_, fun _ _ _ => rfl, ?_, ?_, Nat.le_refl _, Nat.le_refl _, rfl, rfl, rfl⟩⟩
  · intro m ds D ro' b z hg hm
    rw [Hp.get_kill] at hg
    split at hg
    · cases hg
    · rename_i e
      rw [upd_other _ _ e] at hm
      obtain ⟨c, fr', h1, hfr, h2, h3, h4⟩ := s.cells m ds D ro' b z hg hm
      refine ⟨c, fr', h1, hfr, h2, h3, fun i v hv => ?_⟩
      obtain ⟨v', h5, h6⟩ := h4 i v hv
      exact ⟨v', h5, h6.mono hle⟩
  · intro m k b z z' hm hk
    unfold upd at hm hk
    split at hm
    · cases hm
    · split at hk
      · cases hk
      · exact s.inj m k b z z' hm hk
  · intro m b z hm
    unfold upd at hm
    split at hm
    · cases hm
    · exact s.bound m b z hm
  · intro m hm
    unfold Hp.has at hm
    rw [Hp.get_kill] at hm
    unfold upd
    split
    · rename_i e; rw [if_pos e] at hm; cases hm
    · rename_i e; rw [if_neg e] at hm; exact s.nodead m hm
  · intro m hm
    have hm' : h.next ≤ m := hm
    rw [Hp.get_kill]
    split
    · rfl
    · exact s.wf m hm'
  · intro m _
    by_cases e : m = n
    · subst e; exact .inr ⟨upd_same _ _ _, hh⟩
    · exact .inl (upd_other _ _ e)
  · intro m _ e
    by_cases e' : m = n
    · subst e'; exact absurd e hn
    · rw [upd_other _ _ e']; exact e
  · intro m b z hm e
    unfold upd at e
    split at e
    · cases e
    · rename_i e'
      unfold Hp.has at hm
      rw [Hp.get_kill, if_neg e'] at hm
      exact .inl ⟨m, z, hm, e⟩
  · intro m hm _
    rw [Hp.get_kill, if_neg (by intro e; subst e; exact hn hm)]

end
end Go.Ev
