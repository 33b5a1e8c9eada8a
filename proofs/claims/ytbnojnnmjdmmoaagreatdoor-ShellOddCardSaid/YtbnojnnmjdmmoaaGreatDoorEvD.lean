/- Operations over named blocks, but for append, copy, maps and calls. -/
import Derived.Test.YtbnojnnmjdmmoaaGreatDoorEvC
namespace Go.Ev
variable [Sym]

abbrev TT := Nat → Option TI
structure TTok (T : TT) (P : Program) : Prop where
  und : ∀ t i, T t = some i → P.underlying t = some i.desc
  info : ∀ t i, T t = some i → ∃ j, P.info? t = some j ∧ j.size = i.size ∧ j.bytes = i.bytes ∧ j.zero = some i.zero
  eqf : ∀ t i l, T t = some i → i.eqf = some l → ∃ fs, i.desc = .struct fs ∧ (fs.toList.filter fun f => decide (f.name ≠ "_")).map (fun f => (f.offset, f.type)) = l ∧
    P.eqGuardType P.depth t = false ∧ P.stoodInHeld t = false

def isAggD : TypeDesc → Bool
  | .struct _ | .array _ _ => true
  | _ => false

/-- Constants without addresses. -/
def cst : Value → Bool
  | .agg cs => cs.toList.all gnd
  | v => gnd v

section
variable {ν : Nat → Slot}
theorem all_gnd_LR {l : List Value} (h : l.all gnd = true) : LR ν l l := by
  refine ⟨rfl, fun i v u a b => ?_⟩
  rw [a] at b
  simp only [Option.some.injEq] at b
  subst b
  exact .grd v (List.all_eq_true.1 h v (List.mem_of_getElem? a))
theorem cst_VR {v : Value} (h : cst v = true) : VR ν v v := by
  cases v with
  | agg cs =>
    have hl := all_gnd_LR (ν := ν) (l := cs.toList) h
    exact .agg cs cs rfl (fun i v u a b => hl.2 i v u (by simpa using a) (by simpa using b))
  | _ => exact .grd _ h
theorem agg_VR {l l' : List Value} (h : LR ν l l') : VR ν (.agg l.toArray) (.agg l'.toArray) :=
  .agg _ _ (by simpa using h.1) (fun i v u a b => h.2 i v u (by simpa using a) (by simpa using b))
theorem LR_of_agg {cs cs' : Array Value} (hs : cs.size = cs'.size) (h : ∀ (i : Nat) (v u : Value), cs[i]? = some v → cs'[i]? = some u → VR ν v u) : LR ν cs.toList cs'.toList :=
  ⟨by simpa using hs, fun i v u a b => h i v u (by simpa using a) (by simpa using b)⟩
end

/-! ### Runs without memory -/
def pr {α : Type} : Sem α → Option α
  | .pure a => some a
  | .mark _ k => pr k
  | _ => none
omit [Sym] in
theorem pr_run {α : Type} {s : Sem α} {a : α} (h : pr s = some a) (P : Program) (w : World) : s.run P w = .ok a w := by
  induction s with
  | pure b => simp only [pr, Option.some.injEq] at h; subst h; rfl
  | mark m k ih => exact ih h
  | _ => simp [pr] at h

section
variable {P : Program} {T : TT} (hT : TTok T P)
include hT
omit [Sym] in
theorem run_und {t : Nat} {i : TI} (h : T t = some i) (w : World) : (underlying t).run P w = .ok i.desc w := run_underlying (hT.und t i h) w
omit [Sym] in
theorem run_isAgg {t : Nat} {i : TI} (h : T t = some i) (w : World) : (isAgg t).run P w = .ok (isAggD i.desc) w := by
  unfold isAgg
  rw [Sem.run_bind, run_und hT h w]
  simp only [Result.andThen_ok]
  cases i.desc <;> rfl
omit [Sym] in
theorem run_sizeOf {t : Nat} {i : TI} (h : T t = some i) (w : World) : (sizeOf t).run P w = .ok i.size w := by
  obtain ⟨j, h1, h2, _⟩ := hT.info t i h
  simp [sizeOf, typeInfo, h1, h2]
omit [Sym] in
theorem run_zeroValue {t : Nat} {i : TI} (h : T t = some i) (w : World) : (zeroValue t).run P w = .ok i.zero w := by
  obtain ⟨j, h1, _, _, h2⟩ := hT.info t i h
  simp [zeroValue, typeInfo, h1, h2]
omit [Sym] in
theorem run_typeInfo {t : Nat} {i : TI} (h : T t = some i) (w : World) : ∃ j, (typeInfo t).run P w = .ok j w ∧ j.size = i.size ∧ j.bytes = i.bytes ∧ j.zero = some i.zero := by
  obtain ⟨j, h1, h2⟩ := hT.info t i h
  exact ⟨j, by simp [typeInfo, h1], h2⟩
end

/-- What a piece comes to. -/
def Sim (P : Program) (ν : Nat → Slot) (h : Hp) (w : World) (s : Sem Value) (v : Value) (h' : Hp) : Prop :=
  ∃ v' w' ν', s.run P w = .ok v' w' ∧ VR ν' v v' ∧ Sat ν' h' w' ∧ Post ν h w ν' h' w'

section
variable {P : Program} {ν : Nat → Slot} {h : Hp} {w : World}
theorem Sim.pure (s : Sat ν h w) {x : Sem Value} {v v' : Value} (hr : x.run P w = .ok v' w) (hv : VR ν v v') : Sim P ν h w x v h :=
  ⟨v', w, ν, hr, hv, s, Post.refl ν h w⟩

/-! ### Loads and stores -/
def aload (T : TT) (t : TypeId) (h : Hp) : Value → Option Value
  | .pointer (some ⟨n, off, none⟩) =>
    match T t with
    | some i => bif isAggD i.desc then (match ldRow h n off i.size with | some l => some (.agg l.toArray) | none => none) else ldAt h n off
    | none => none
  | _ => none

theorem loadVar_sound {T : TT} (hT : TTok T P) (s : Sat ν h w) {t : TypeId} {p p' v : Value} (hl : aload T t h p = some v) (hp : VR ν p p') :
    ∃ a u, p' = .pointer (some a) ∧ (loadVar t a).run P w = .ok u w ∧ VR ν v u := by
  unfold aload at hl
  split at hl
  · rename_i n off
    split at hl
    · rename_i i hi
      cases hag : isAggD i.desc with
      | true =>
        rw [hag] at hl
        simp only [cond_true] at hl
        split at hl
        · rename_i l hl'
          simp only [Option.some.injEq] at hl
          subst hl
          obtain ⟨b, l', rfl, hr, hLR⟩ := ldRow_sound P s hl' hp
          refine ⟨_, .agg l'.toArray, rfl, ?_, agg_VR hLR⟩
          unfold loadVar
          simp only [Sem.run_bind, run_isAgg hT hi, hag, Result.andThen_ok, if_true, run_sizeOf hT hi, hr, Sem.run_pure]
        · cases hl
      | false =>
        rw [hag] at hl
        simp only [cond_false] at hl
        obtain ⟨b, u, rfl, hc, hv⟩ := ldAt_sound s hl hp
        refine ⟨_, u, rfl, ?_, hv⟩
        unfold loadVar
        simp [run_isAgg hT hi, hag, hc]
    · cases hl
  · cases hl

def astore (T : TT) (t : TypeId) (h : Hp) (p v : Value) : Option Hp :=
  match p with
  | .pointer (some ⟨n, off, none⟩) =>
    match T t, h.get n with
    | some i, some (.cells cs E false) =>
      bif Nat.beq v.cells.size i.size && v.cells.toList.all flat then
        match setAt off v.cells.toList cs with
        | some cs2 => some (h.put n (.cells cs2 E false))
        | none => none
      else none
    | _, _ => none
  | _ => none

theorem LR.flat {l l' : List Value} (hl : LR ν l l') (hf : l.all Ev.flat = true) : ∀ v ∈ l', v.oneCell' = true := by
  intro v hv
  obtain ⟨i, hi, rfl⟩ := List.mem_iff_getElem.1 hv
  have hi' : i < l.length := hl.1 ▸ hi
  exact (hl.2 i l[i] l'[i] (List.getElem?_eq_getElem hi') (List.getElem?_eq_getElem hi)).oneCell (List.all_eq_true.1 hf _ (List.getElem_mem hi'))

theorem storeVar_sound {T : TT} (hT : TTok T P) (s : Sat ν h w) {t : TypeId} {p p' v u : Value} {h' : Hp} (hl : astore T t h p v = some h') (hp : VR ν p p') (hv : VR ν v u) :
    ∃ a w', p' = .pointer (some a) ∧ (storeVar t a u).run P w = .ok () w' ∧ Sat ν h' w' ∧ Post ν h w ν h' w' := by
  unfold astore at hl
  split at hl
  · rename_i n off
    split at hl
    · rename_i i cs E hi hg
      cases hc : Nat.beq v.cells.size i.size && v.cells.toList.all flat with
      | false => rw [hc] at hl; cases hl
      | true =>
        rw [hc] at hl
        simp only [cond_true] at hl
        split at hl
        · rename_i cs2 hset
          simp only [Option.some.injEq] at hl
          subst hl
          simp only [Bool.and_eq_true] at hc
          obtain ⟨b, c, fr, hn, rfl, hb, hfr, hlen, hcc⟩ := s.ptr hp hg
          have hfr := hfr rfl
          subst hfr
          have hLR := LR.of_cells hv
          have hsz : u.cells.size = i.size := by
            have h1 := hLR.1
            have h2 := Nat.eq_of_beq_eq_true hc.1
            simp at h1
            omega
          obtain ⟨S, Q⟩ := put_sound s hg hn hb hset hLR
          refine ⟨_, _, rfl, ?_, S, Q⟩
          have hfit : off + u.cells.toList.length ≤ c.size := by
            have h1 := (setAt_spec _ _ _ _ hset).2.1
            have h2 := hLR.1
            omega
          have hst := run_storeCells_at P b off E u.cells.toList 0 c w hb (by simpa using hfit) (LR.flat hLR hc.2)
          unfold storeVar
          simp only [Sem.run_bind, run_sizeOf hT hi, Result.andThen_ok, hsz, ne_eq, not_true_eq_false, if_false]
          simpa using hst
        · cases hl
    · cases hl
  · cases hl

/-! ### New variables -/
def abox (h : Hp) (elem : TypeId) (v : Value) : Value × Hp := (.pointer (some ⟨h.next, 0, none⟩), h.new (.cells v.cells.toList elem false))

theorem newRow_sound (s : Sat ν h w) (hf : ν h.next = .un) (elem : TypeId) {l : List Value} {c : Array Value} (hl : l.length ≤ c.size)
    (hc : ∀ (i : Nat) (v : Value), l[i]? = some v → ∃ v', c[i]? = some v' ∧ VR ν v v') :
    (newRow elem c).run P w = .ok ⟨w.heap.size, 0, none⟩ (w.alloc (.cells c elem)) ∧
    Sat (upd ν h.next (.live w.heap.size c.size)) (h.new (.cells l elem false)) (w.alloc (.cells c elem)) ∧
    Post ν h w (upd ν h.next (.live w.heap.size c.size)) (h.new (.cells l elem false)) (w.alloc (.cells c elem)) :=
  ⟨rfl, new_sound s hf elem false (0, 0) (fun _ => rfl) hl hc⟩

theorem newVar_sound (s : Sat ν h w) (hf : ν h.next = .un) (elem : TypeId) {v u : Value} (hv : VR ν v u) :
    Sim P ν h w (do Pure.pure (.pointer (some (← newVar elem u)))) (abox h elem v).1 (abox h elem v).2 := by
  have hLR := LR.of_cells hv
  obtain ⟨h1, h2, h3⟩ := newRow_sound (P := P) s hf elem (l := v.cells.toList) (c := u.cells) (by have := hLR.1; simpa using Nat.le_of_eq this)
    (fun i x hx => by obtain ⟨y, hy, hxy⟩ := hLR.getElem? hx; exact ⟨y, by simpa using hy, hxy⟩)
  refine ⟨.pointer (some ⟨w.heap.size, 0, none⟩), _, _, ?_, ?_, h2, h3⟩
  · simp only [newVar, Sem.run_bind, h1, Result.andThen_ok, Sem.run_pure]
  · exact .ptr _ _ _ u.cells.size (upd_same _ _ _)
end
end Go.Ev
