/- More operations over named blocks. -/
import Derived.Test.YtbnojnnmjdmmoaaGreatDoorEvD
import Derived.Laws.Tables
namespace Go.Ev
variable [Sym]

/-- Two rows. -/
def AR (ν : Nat → Slot) (c c' : Array Value) : Prop := c.size = c'.size ∧ ∀ (i : Nat) (v u : Value), c[i]? = some v → c'[i]? = some u → VR ν v u
theorem AR.toList {ν : Nat → Slot} {c c' : Array Value} (h : AR ν c c') : LR ν c.toList c'.toList := LR_of_agg h.1 h.2
theorem AR.of_list {ν : Nat → Slot} {l l' : List Value} (h : LR ν l l') : AR ν l.toArray l'.toArray :=
  ⟨by simpa using h.1, fun i v u a b => h.2 i v u (by simpa using a) (by simpa using b)⟩
theorem AR.set {ν : Nat → Slot} {c c' : Array Value} (h : AR ν c c') (j : Nat) {v v' : Value} (hv : VR ν v v') : AR ν (c.setIfInBounds j v) (c'.setIfInBounds j v') := by
  refine ⟨by simp [h.1], fun i x u a b => ?_⟩
  rw [Array.getElem?_setIfInBounds] at a b
  split at a
  · rename_i e
    rw [if_pos e, ← h.1] at b
    split at a
    · rename_i hl
      rw [if_pos hl] at b
      simp only [Option.some.injEq] at a b
      subst a; subst b; exact hv
    · cases a
  · rename_i e
    rw [if_neg e] at b
    exact h.2 i x u a b
theorem AR.cells {ν : Nat → Slot} {v v' : Value} (hv : VR ν v v') : AR ν v.cells v'.cells := by
  have := LR.of_cells hv
  exact ⟨by simpa using this.1, fun i x u a b => this.2 i x u (by simpa using a) (by simpa using b)⟩
theorem AR.refl_gnd {ν : Nat → Slot} {c : Array Value} (h : c.toList.all gnd = true) : AR ν c c := by
  have := all_gnd_LR (ν := ν) h
  exact ⟨rfl, fun i v u a b => this.2 i v u (by simpa using a) (by simpa using b)⟩

theorem foldl_set_AR {ν : Nat → Slot} (off : Nat) : ∀ (l l' : List Value) (k : Nat) (c c' : Array Value), LR ν l l' → AR ν c c' →
    AR ν ((l.zipIdx k).foldl (fun cs (x : Value × Nat) => cs.setIfInBounds (off + x.2) x.1) c) ((l'.zipIdx k).foldl (fun cs (x : Value × Nat) => cs.setIfInBounds (off + x.2) x.1) c')
  | [], [], k, c, c', _, h => by simpa using h
  | [], _ :: _, k, c, c', hl, _ => by have := hl.1; simp at this
  | _ :: _, [], k, c, c', hl, _ => by have := hl.1; simp at this
  | v :: l, v' :: l', k, c, c', hl, h => by
    simp only [List.zipIdx_cons, List.foldl_cons]
    have h0 : VR ν v v' := hl.2 0 v v' rfl rfl
    exact foldl_set_AR off l l' (k + 1) _ _ ⟨by have := hl.1; simpa using this, fun i x u a b => hl.2 (i + 1) x u (by simpa using a) (by simpa using b)⟩ (h.set (off + k) h0)

/-- Parts, one by one. -/
inductive PR (ν : Nat → Slot) : List (Nat × Value) → List (Nat × Value) → Prop
  | nil : PR ν [] []
  | cons (i : Nat) (v v' : Value) (l l' : List (Nat × Value)) (h : VR ν v v') (t : PR ν l l') : PR ν ((i, v) :: l) ((i, v') :: l')

theorem fill_AR {ν : Nat → Slot} (place : Nat → Option (Nat × Nat)) {l l' : List (Nat × Value)} (hp : PR ν l l') : ∀ (c c' r : Array Value), AR ν c c' → Instr.fill place c l = some r →
    ∃ r', Instr.fill place c' l' = some r' ∧ AR ν r r' := by
  induction hp with
  | nil => intro c c' r h hr; simp only [Instr.fill, Option.some.injEq] at hr; subst hr; exact ⟨c', rfl, h⟩
  | cons i v v' l l' hv _ ih =>
    intro c c' r h hr
    simp only [Instr.fill] at hr ⊢
    cases hpl : place i with
    | none => simp [hpl] at hr
    | some x =>
      obtain ⟨off, size⟩ := x
      simp only [hpl] at hr ⊢
      have hcs := AR.cells hv
      rw [← hcs.1, ← h.1]
      split at hr
      · cases hr
      · rename_i hno
        rw [if_neg hno]
        refine ih _ _ r ?_ hr
        have := foldl_set_AR (ν := ν) off v.cells.toList v'.cells.toList 0 c c' hcs.toList h
        rw [← Array.foldl_toList, ← Array.foldl_toList, Array.toList_zipIdx, Array.toList_zipIdx]
        exact this

/-- What a struct or an array is built to. -/
def placesOf (T : TT) : List Field → Option (List (Nat × Nat))
  | [] => some []
  | f :: r => match T f.type, placesOf T r with
    | some i, some l => some ((f.offset, i.size) :: l)
    | _, _ => none
def abuild (T : TT) (t : TypeId) (parts : List (Nat × Value)) : Option Value :=
  match T t with
  | some it =>
    bif it.zero.cells.toList.all gnd then
      match it.desc with
      | .struct fields =>
        match placesOf T fields.toList with
        | some places => match Instr.fill (places[·]?) it.zero.cells parts with | some c => some (.agg c) | none => none
        | none => none
      | .array _ e =>
        match T e with
        | some ie => match Instr.fill (fun i => some (i * ie.size, ie.size)) it.zero.cells parts with | some c => some (.agg c) | none => none
        | none => none
      | _ => none
    else none
  | none => none

section
variable {P : Program} {T : TT} (hT : TTok T P)
include hT
omit [Sym] in
theorem places_mapM : ∀ (fs : List Field) (places : List (Nat × Nat)), placesOf T fs = some places → fs.mapM (fun f => (P.info? f.type).map fun i => (f.offset, i.size)) = some places
  | [], places, h => by simp only [placesOf, Option.some.injEq] at h; subst h; rfl
  | f :: r, places, h => by
    simp only [placesOf] at h
    split at h
    · rename_i i l hi hl
      simp only [Option.some.injEq] at h
      subst h
      obtain ⟨j, h1, h2, _⟩ := hT.info _ _ hi
      simp [List.mapM_cons, h1, h2, places_mapM r l hl]
    · cases h

theorem abuild_sound {ν : Nat → Slot} {w : World} {t : TypeId} {l l' : List (Nat × Value)} {v : Value} (hb : abuild T t l = some v) (hp : PR ν l l') :
    ∃ u, (Instr.build t l'.toArray).run P w = .ok u w ∧ VR ν v u := by
  unfold abuild at hb
  split at hb
  · rename_i it hit
    obtain ⟨j, h1, h2, h3, h4⟩ := hT.info _ _ hit
    have hu := hT.und _ _ hit
    cases hz : it.zero.cells.toList.all gnd with
    | false => rw [hz] at hb; cases hb
    | true =>
      rw [hz] at hb
      simp only [cond_true] at hb
      have hzz := AR.refl_gnd (ν := ν) hz
      split at hb
      · rename_i fields hd
        split at hb
        · rename_i places hpl
          split at hb
          · rename_i c hc
            simp only [Option.some.injEq] at hb
            subst hb
            obtain ⟨r', hr', hAR⟩ := fill_AR _ hp _ _ _ hzz hc
            refine ⟨.agg r', run_build (P := P) w t l'.toArray r' ?_, .agg _ _ hAR.1 hAR.2⟩
            unfold Program.built
            simp only [h1, hu, hd, h4, places_mapM hT _ _ hpl]
            simpa using hr'
          · cases hb
        · cases hb
      · rename_i n e hd
        split at hb
        · rename_i ie hie
          split at hb
          · rename_i c hc
            simp only [Option.some.injEq] at hb
            subst hb
            obtain ⟨r', hr', hAR⟩ := fill_AR _ hp _ _ _ hzz hc
            obtain ⟨je, g1, g2, _⟩ := hT.info _ _ hie
            refine ⟨.agg r', run_build (P := P) w t l'.toArray r' ?_, .agg _ _ hAR.1 hAR.2⟩
            unfold Program.built
            simp only [h1, hu, hd, h4, g1, g2]
            exact hr'
          · cases hb
        · cases hb
      · cases hb
  · cases hb
end

/-! ### A slice that is laid -/
def rowOf (zero : Array Value) (n : Nat) : Array Value := (Array.range n).map (zero[· % zero.size]!)
def abuildSlice (T : TT) (t : TypeId) (len : Nat) (parts : List (Nat × Value)) (h : Hp) : Option (Value × Hp) :=
  match T t with
  | some it =>
    match it.desc with
    | .slice e =>
      match T e with
      | some ie =>
        let n := len * ie.size
        let row := rowOf (bif Nat.beq n 0 then #[] else ie.zero.cells) n
        bif Nat.ble n 16777216 && row.toList.all gnd then
          match Instr.fill (fun i => some (i * ie.size, ie.size)) row parts with
          | some c => some (.slice (some ⟨h.next, 0, none⟩) len ie.size, h.new (.cells c.toList e false))
          | none => none
        else none
      | none => none
    | _ => none
  | none => none

section
variable {P : Program} {T : TT} {ν : Nat → Slot} {h : Hp} {w : World}

theorem newRow_AR (s : Sat ν h w) (hf : ν h.next = .un) (elem : TypeId) {c c' : Array Value} (hc : AR ν c c') :
    (newRow elem c').run P w = .ok ⟨w.heap.size, 0, none⟩ (w.alloc (.cells c' elem)) ∧
    Sat (upd ν h.next (.live w.heap.size c'.size)) (h.new (.cells c.toList elem false)) (w.alloc (.cells c' elem)) ∧
    Post ν h w (upd ν h.next (.live w.heap.size c'.size)) (h.new (.cells c.toList elem false)) (w.alloc (.cells c' elem)) :=
  newRow_sound s hf elem (by have := hc.1; simpa using Nat.le_of_eq this) (fun i x hx => by
    obtain ⟨y, hy, hxy⟩ := hc.toList.getElem? hx; exact ⟨y, by simpa using hy, hxy⟩)

omit [Sym] in
theorem foldl_set_size (off : Nat) : ∀ (z : List (Value × Nat)) (c : Array Value), (z.foldl (fun cs (x : Value × Nat) => cs.setIfInBounds (off + x.2) x.1) c).size = c.size
  | [], _ => rfl
  | x :: z, c => by simp only [List.foldl_cons]; rw [foldl_set_size off z]; simp
omit [Sym] in
theorem fill_size (place : Nat → Option (Nat × Nat)) : ∀ (l : List (Nat × Value)) (c r : Array Value), Instr.fill place c l = some r → r.size = c.size
  | [], c, r, h => by simp only [Instr.fill, Option.some.injEq] at h; rw [h]
  | (i, v) :: l, c, r, h => by
    simp only [Instr.fill] at h
    split at h
    · cases h
    · split at h
      · cases h
      · rw [fill_size place l _ r h, ← Array.foldl_toList]
        exact foldl_set_size _ _ _
omit [Sym] in
theorem rowOf_size (z : Array Value) (n : Nat) : (rowOf z n).size = n := by simp [rowOf]

theorem abuildSlice_sound (hT : TTok T P) (s : Sat ν h w) (hf : ν h.next = .un) {t : TypeId} {len : Nat} {l l' : List (Nat × Value)} {v : Value} {h' : Hp} (hb : abuildSlice T t len l h = some (v, h')) (hp : PR ν l l') :
    Sim P ν h w (Instr.buildSlice t len l'.toArray) v h' := by
  unfold abuildSlice at hb
  split at hb
  · rename_i it hit
    split at hb
    · rename_i e hd
      split at hb
      · rename_i ie hie
        simp only at hb
        cases hz : (Nat.ble (len * ie.size) 16777216 && (rowOf (bif Nat.beq (len * ie.size) 0 then #[] else ie.zero.cells) (len * ie.size)).toList.all gnd) with
        | false => rw [hz] at hb; cases hb
        | true =>
          rw [hz] at hb
          simp only [cond_true] at hb
          split at hb
          · rename_i c hc
            simp only [Option.some.injEq, Prod.mk.injEq] at hb
            obtain ⟨rfl, rfl⟩ := hb
            simp only [Bool.and_eq_true] at hz
            obtain ⟨r', hr', hAR⟩ := fill_AR _ hp _ _ _ (AR.refl_gnd (ν := ν) hz.2) hc
            obtain ⟨h1, h2, h3⟩ := newRow_AR (P := P) s hf e hAR
            have hle : ¬ (len * ie.size > 2 ^ 24) := by have := Nat.le_of_ble_eq_true hz.1; omega
            refine ⟨.slice (some ⟨w.heap.size, 0, none⟩) len len, _, _, ?_, ?_, h2, h3⟩
            · have hu : P.underlying t = some (.slice e) := by rw [hT.und _ _ hit, hd]
              have hr'' : Instr.fill (fun i => some (i * ie.size, ie.size)) ((Array.range (len * ie.size)).map fun x => (bif Nat.beq (len * ie.size) 0 then #[] else ie.zero.cells)[x % (bif Nat.beq (len * ie.size) 0 then (#[] : Array Value) else ie.zero.cells).size]!) l' = some r' := hr'
              unfold Instr.buildSlice
              simp only [Sem.run_bind, run_underlying hu, Result.andThen_ok, run_sizeOf hT hie, if_neg hle]
              by_cases h0 : len * ie.size = 0
              · rw [h0] at hr''
                simp only [Nat.beq_refl, cond_true] at hr''
                simp only [h0, if_true, Sem.run_bind, Sem.run_pure, Result.andThen_ok, hr'', h1]
              · have hb0 : Nat.beq (len * ie.size) 0 = false := beqN h0
                simp only [hb0, cond_false] at hr''
                simp only [if_neg h0, Sem.run_bind, run_zeroValue hT hie, Sem.run_pure, Result.andThen_ok, hr'', h1]
            · refine .slc _ _ _ _ _ r'.size _ (upd_same _ _ _) (Nat.le_refl _) ?_
              rw [← hAR.1, fill_size _ _ _ _ hc, rowOf_size]
              omega
          · cases hb
      · cases hb
    · cases hb
  · cases hb
end
end Go.Ev
