/- Slices: cuts, making, append, copy. -/
import Derived.Test.YtbnojnnmjdmmoaaGreatDoorEvH
import Derived.IntWalk
namespace Go.Ev
variable [Sym]

section
variable {P : Program} {T : TT} {ν : Nat → Slot} {h : Hp} {w : World}

theorem OR_bnd {x x' : Option Value} {d n : Nat} (h : bnd x d = some n) (hx : ∀ v, x = some v → ∃ v', x' = some v' ∧ VR ν v v') (hn : x = none → x' = none) :
    (x' = none ∧ n = d) ∨ (∃ k : IntKind, ∃ i : Int, x' = some (.int k i) ∧ 0 ≤ i ∧ n = i.toNat) := by
  unfold bnd at h
  split at h
  · simp only [Option.some.injEq] at h; exact .inl ⟨hn rfl, h.symm⟩
  · rename_i k i
    cases hb : decide (0 ≤ i) with
    | false => rw [hb] at h; cases h
    | true =>
      rw [hb] at h
      simp only [cond_true, Option.some.injEq] at h
      obtain ⟨v', h1, h2⟩ := hx _ rfl
      rw [h2.grd_inv rfl] at h1
      exact .inr ⟨k, i, h1, of_decide_eq_true hb, h.symm⟩
  · cases h

omit [Sym] in
theorem sliceBounds_run (isSlice : Bool) (len cap : Nat) {lo hi : Option Value} {l hh : Nat} (hcap : len ≤ cap) (hhl : hh ≤ len) (hll : l ≤ hh)
    (hlo : (lo = none ∧ l = 0) ∨ (∃ k : IntKind, ∃ i : Int, lo = some (.int k i) ∧ 0 ≤ i ∧ l = i.toNat)) (hhi : (hi = none ∧ hh = len) ∨ (∃ k : IntKind, ∃ i : Int, hi = some (.int k i) ∧ 0 ≤ i ∧ hh = i.toNat)) :
    (Instr.sliceBounds isSlice len cap lo hi none).run P w = .ok (l, hh, cap) w := by
  rcases hlo with ⟨rfl, rfl⟩ | ⟨k, i, rfl, hi0, rfl⟩ <;> rcases hhi with ⟨rfl, rfl⟩ | ⟨k2, i2, rfl, hi02, rfl⟩
  · simp [Instr.sliceBounds]
  · have : 0 ≤ i2 ∧ i2 ≤ (cap : Int) := ⟨hi02, by omega⟩
    simp only [Instr.sliceBounds, Sem.run_bind, Sem.run_pure, Result.andThen_ok, Instr.sliceBound, asIntOf, if_pos this]
  · have : 0 ≤ i ∧ i ≤ (hh : Int) := ⟨hi0, by omega⟩
    simp only [Instr.sliceBounds, Sem.run_bind, Sem.run_pure, Result.andThen_ok, Instr.sliceBound, asIntOf, if_pos this]
  · have h1 : 0 ≤ i2 ∧ i2 ≤ (cap : Int) := ⟨hi02, by omega⟩
    have h2 : 0 ≤ i ∧ i ≤ ((i2.toNat : Nat) : Int) := ⟨hi0, by omega⟩
    simp only [Instr.sliceBounds, Sem.run_bind, Sem.run_pure, Result.andThen_ok, Instr.sliceBound, asIntOf, if_pos h1, if_pos h2]

theorem aslice_sound (hT : TTok T P) {t : TypeId} {x x' v : Value} {lo hi lo' hi' : Option Value} (ha : aslice T t x lo hi = some v) (hx : VR ν x x')
    (hlo : ∀ v, lo = some v → ∃ v', lo' = some v' ∧ VR ν v v') (hlon : lo = none → lo' = none) (hhi : ∀ v, hi = some v → ∃ v', hi' = some v' ∧ VR ν v v') (hhin : hi = none → hi' = none) :
    ∃ v', (Instr.slice t x' lo' hi' none).run P w = .ok v' w ∧ VR ν v v' := by
  unfold aslice at ha
  split at ha
  · rename_i i s hit
    split at ha
    · rename_i hd
      split at ha
      · rename_i hh hbh
        split at ha
        · rename_i l hbl
          cases hc : Nat.ble hh s.size && Nat.ble l hh with
          | false => rw [hc] at ha; cases ha
          | true =>
            rw [hc] at ha
            simp only [cond_true, Option.some.injEq] at ha
            subst ha
            simp only [Bool.and_eq_true] at hc
            have h1 := Nat.le_of_ble_eq_true hc.1
            have h2 := Nat.le_of_ble_eq_true hc.2
            rw [hx.grd_inv rfl]
            refine ⟨.string (s.extract l hh), ?_, .grd _ rfl⟩
            have hu : P.underlying t = some .string := by rw [hT.und _ _ hit, hd]
            have hb := sliceBounds_run (P := P) (w := w) false s.size s.size (Nat.le_refl _) h1 h2 (OR_bnd hbl hlo hlon) (OR_bnd hbh hhi hhin)
            unfold Instr.slice
            simp [run_underlying hu, hb]
        · cases ha
      · cases ha
    · cases ha
  · rename_i i n off len ez hit
    split at ha
    · rename_i e hd
      split at ha
      · rename_i j hh l hj hbh hbl
        cases hc : Nat.beq j.size ez && Nat.ble hh len && Nat.ble l hh with
        | false => rw [hc] at ha; cases ha
        | true =>
          rw [hc] at ha
          simp only [cond_true] at ha
          simp only [Bool.and_eq_true] at hc
          have hez := Nat.eq_of_beq_eq_true hc.1.1
          subst hez
          have h1 := Nat.le_of_ble_eq_true hc.1.2
          have h2 := Nat.le_of_ble_eq_true hc.2
          have hu : P.underlying t = some (.slice e) := by rw [hT.und _ _ hit, hd]
          have shape : ∃ (a : Addr) (cap : Nat), x' = .slice (some a) len cap ∧ len ≤ cap ∧ a.spot = none ∧ (ν n = .dead ∨ ∃ b z, ν n = .live b z ∧ a = ⟨b, off, none⟩ ∧ off + cap * j.size ≤ z) := by
            rcases hx.slc_inv with ⟨b, z, cap, hn, hl, hcz, rfl⟩ | ⟨hdd, a, cap, hs, hl, rfl⟩
            · exact ⟨_, cap, rfl, hl, rfl, .inr ⟨b, z, hn, rfl, hcz⟩⟩
            · exact ⟨a, cap, rfl, hl, hs, .inl hdd⟩
          obtain ⟨a, cap, rfl, hl, hs, hwhere⟩ := shape
          have hb := sliceBounds_run (P := P) (w := w) true len cap hl h1 h2 (OR_bnd hbl hlo hlon) (OR_bnd hbh hhi hhin)
          have hrun : (Instr.slice t (.slice (some a) len cap) lo' hi' none).run P w = .ok (.slice (if cap = l then some a else some (a.add (l * j.size))) (hh - l) (cap - l)) w := by
            unfold Instr.slice
            simp only [Sem.run_bind, run_underlying hu, Result.andThen_ok, hb, run_sizeOf hT hj, Sem.run_pure, Option.map_some]
          rw [hrun]
          have hsa : ∀ k, (a.add k).spot = none := by
            intro k; unfold Addr.add; split
            · exact hs
            · rfl
          cases hl0 : Nat.beq l 0 with
          | true =>
            rw [hl0] at ha
            simp only [cond_true, Option.some.injEq] at ha
            subst ha
            have hl0 := Nat.eq_of_beq_eq_true hl0
            subst hl0
            refine ⟨_, rfl, ?_⟩
            have ea : (if cap = 0 then some a else some (a.add (0 * j.size))) = some a := by
              split
              · rfl
              · simp [Addr.add]
            rw [ea]
            simp only [Nat.sub_zero]
            rcases hwhere with hd' | ⟨b, z, hn, rfl, hcz⟩
            · exact .slcD _ _ _ _ _ _ hd' hs (by omega)
            · exact .slc _ _ _ _ _ z _ hn (by omega) hcz
          | false =>
            rw [hl0] at ha
            simp only [cond_false] at ha
            cases hlh : Nat.beq l hh with
            | true =>
              rw [hlh] at ha
              simp only [cond_true, Option.some.injEq] at ha
              subst ha
              have hlh := Nat.eq_of_beq_eq_true hlh
              subst hlh
              refine ⟨_, rfl, ?_⟩
              simp only [Nat.sub_self]
              split
              · exact .slc0 _ _ _ _ _ hs
              · exact .slc0 _ _ _ _ _ (hsa _)
            | false =>
              rw [hlh] at ha
              simp only [cond_false, Option.some.injEq] at ha
              subst ha
              have hne : l ≠ hh := fun e => by rw [e, Nat.beq_refl] at hlh; cases hlh
              refine ⟨_, rfl, ?_⟩
              rw [if_neg (by omega)]
              rcases hwhere with hd' | ⟨b, z, hn, rfl, hcz⟩
              · exact .slcD _ _ _ _ _ _ hd' (hsa _) (by omega)
              · rw [addr_add]
                refine .slc _ _ _ _ _ z _ hn (by omega) ?_
                have : l * j.size + (cap - l) * j.size = cap * j.size := by rw [← Nat.add_mul]; congr 1; omega
                omega
      · cases ha
    · cases ha
  · rename_i i hit
    split at ha
    · rename_i e hd
      split at ha
      · rename_i j hj hbh hbl
        simp only [Option.some.injEq] at ha
        subst ha
        obtain ⟨ex, _, _⟩ := hx.nilslice_inv
        rw [ex]
        have hu : P.underlying t = some (.slice e) := by rw [hT.und _ _ hit, hd]
        have hb := sliceBounds_run (P := P) (w := w) true 0 0 (Nat.le_refl _) (Nat.le_refl _) (Nat.le_refl _) (OR_bnd hbl hlo hlon) (OR_bnd hbh hhi hhin)
        refine ⟨.slice none 0 0, ?_, .grd _ rfl⟩
        unfold Instr.slice
        simp only [Sem.run_bind, run_underlying hu, Result.andThen_ok, hb, run_sizeOf hT hj, Sem.run_pure, if_true, Nat.sub_self]
      · cases ha
    · cases ha
  · cases ha

/-! ### Making -/
def amakeSlice (T : TT) (t : TypeId) (l c : Value) (h : Hp) : Option (Value × Hp) :=
  match T t, l, c with
  | some i, .int _ l, .int _ c =>
    match i.desc with
    | .slice e => match T e with
      | some j =>
        let n := c.toNat * j.size
        let row := rowOf (bif Nat.beq n 0 then #[] else j.zero.cells) n
        bif decide (0 ≤ l) && decide (l ≤ c) && decide (c ≤ 2147483647) && decide (j.bytes * c ≤ 281474976710656) && row.toList.all gnd then
          some (.slice (some ⟨h.next, 0, none⟩) l.toNat j.size, h.new (.cells row.toList e false))
        else none
      | none => none
    | _ => none
  | _, _, _ => none

theorem amakeSlice_sound (hT : TTok T P) (s : Sat ν h w) {t : TypeId} {l c l' c' v : Value} {h' : Hp} (ha : amakeSlice T t l c h = some (v, h')) (hl : VR ν l l') (hc : VR ν c c') (hf : Fresh ν h h') :
    Sim P ν h w (Instr.makeSlice t l' c') v h' := by
  unfold amakeSlice at ha
  split at ha
  · rename_i i k l k2 c hit
    split at ha
    · rename_i e hd
      split at ha
      · rename_i j hj
        simp only at ha
        cases hz : decide (0 ≤ l) && decide (l ≤ c) && decide (c ≤ 2147483647) && decide (j.bytes * c ≤ 281474976710656) && (rowOf (bif Nat.beq (c.toNat * j.size) 0 then #[] else j.zero.cells) (c.toNat * j.size)).toList.all gnd with
        | false => rw [hz] at ha; cases ha
        | true =>
          rw [hz] at ha
          simp only [cond_true, Option.some.injEq, Prod.mk.injEq] at ha
          obtain ⟨rfl, rfl⟩ := ha
          simp only [Bool.and_eq_true, decide_eq_true_eq] at hz
          obtain ⟨⟨⟨⟨hl0, hlc⟩, hcm⟩, hcb⟩, hg⟩ := hz
          have hfn : ν h.next = .un := hf h.next (Nat.le_refl _) (by simp [Hp.new])
          obtain ⟨h1, h2, h3⟩ := newRow_AR (P := P) s hfn e (AR.refl_gnd (ν := ν) hg)
          rw [hl.grd_inv rfl, hc.grd_inv rfl]
          obtain ⟨ji, hji, hjs, hjb, hjz⟩ := run_typeInfo hT hj w
          have hu : P.underlying t = some (.slice e) := by rw [hT.und _ _ hit, hd]
          have wl : IntKind.i64.wrap l = l := Go.IntWalk.i64_in l (by omega)
          have wc : IntKind.i64.wrap c = c := Go.IntWalk.i64_in c (by omega)
          have nt1 : (decide (c < 0) || decide ((j.bytes : Int) * c > 2 ^ 48)) = false := by simp; exact ⟨by omega, by omega⟩
          have nt : ((decide (c < 0) || decide ((j.bytes : Int) * c > 2 ^ 48)) || decide (l < 0) || decide (l > c)) = false := by rw [nt1]; simp; exact ⟨by omega, by omega⟩
          refine ⟨.slice (some ⟨w.heap.size, 0, none⟩) l.toNat c.toNat, _, _, ?_, ?_, h2, h3⟩
          · unfold Instr.makeSlice
            simp only [Sem.run_bind, run_underlying hu, Result.andThen_ok, asInt, asIntOf, Sem.run_pure, hji, hjb, wl, wc, nt, Bool.false_eq_true, if_false, run_askRoom, run_sizeOf hT hj]
            by_cases h0 : c.toNat * j.size = 0
            · rw [if_pos h0]
              have hb0 : Nat.beq (c.toNat * j.size) 0 = true := by rw [h0]; rfl
              simp only [hb0, cond_true] at h1 ⊢
              simp only [Sem.run_bind, Sem.run_pure, Result.andThen_ok]
              have h1' : (newRow e (Array.map (fun x => (#[] : Array Value)[x % (#[] : Array Value).size]!) (Array.range (c.toNat * j.size)))).run P w = _ := h1
              rw [h1']
              rfl
            · rw [if_neg h0]
              have hb0 : Nat.beq (c.toNat * j.size) 0 = false := beqN h0
              simp only [hb0, cond_false] at h1 ⊢
              simp only [Sem.run_bind, Sem.run_pure, Result.andThen_ok, run_zeroValue hT hj]
              have h1' : (newRow e (Array.map (fun x => j.zero.cells[x % j.zero.cells.size]!) (Array.range (c.toNat * j.size)))).run P w = _ := h1
              rw [h1']
              rfl
          · refine .slc _ _ _ _ _ _ _ (upd_same _ _ _) (by omega) ?_
            rw [rowOf_size]; omega
      · cases ha
    · cases ha
  · cases ha
end
end Go.Ev
