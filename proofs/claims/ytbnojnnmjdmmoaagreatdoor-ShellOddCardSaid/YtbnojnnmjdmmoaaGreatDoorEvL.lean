/- One operation: sound. -/
import Derived.Test.YtbnojnnmjdmmoaaGreatDoorEvK
namespace Go.Ev
variable [Sym]

section
variable {P : Program} {T : TT} {ν : Nat → Slot} {h : Hp} {w : World} {τ : Env} {a : Act}

omit [Sym] in
theorem aslice_desc {t : TypeId} {x v : Value} {lo hi : Option Value} (ha : aslice T t x lo hi = some v) : ∃ i, T t = some i ∧ (i.desc = .string ∨ ∃ e, i.desc = .slice e) := by
  unfold aslice at ha
  split at ha
  · rename_i i s hit
    split at ha
    · rename_i hd; exact ⟨i, hit, .inl hd⟩
    · cases ha
  · rename_i i n off len ez hit
    split at ha
    · rename_i e hd; exact ⟨i, hit, .inr ⟨e, hd⟩⟩
    · cases ha
  · rename_i i hit
    split at ha
    · rename_i e hd; exact ⟨i, hit, .inr ⟨e, hd⟩⟩
    · cases ha
  · cases ha

theorem oev_sound (e : EnvR ν τ a) {x : Option Operand} {o : Option Value} (h : oev τ x = some o) :
    (∀ v, o = some v → ∃ v', x.map a.eval = some v' ∧ VR ν v v') ∧ (o = none → x.map a.eval = none) := by
  cases x with
  | none =>
    simp only [oev, Option.some.injEq] at h
    subst h
    exact ⟨fun v hv => by simp at hv, fun _ => rfl⟩
  | some x =>
    simp only [oev] at h
    split at h
    · rename_i u hu
      simp only [Option.some.injEq] at h
      subst h
      exact ⟨fun v hv => by simp only [Option.some.injEq] at hv; subst hv; exact ⟨_, rfl, aev_sound e hu⟩, fun hx => by simp at hx⟩
    · cases h

theorem aop_sound (hT : TTok T P) (s : Sat ν h w) (e : EnvR ν τ a) {o : Oper} {v : Value} {h' : Hp} (ha : aop T o.op τ h = some (v, h')) (hf : Fresh ν h h') :
    SimO P ν h w (execOp a.eval o) v h' := by
  unfold execOp
  unfold aop at ha
  split at ha <;> first | (rename_i ho; rw [ho]; simp only) | (exact nomatch ha)
  · obtain ⟨h1, rfl⟩ := un_spec ha
    exact SimO.val s rfl (aev_sound e h1)
  · obtain ⟨h1, rfl⟩ := un_spec ha
    exact SimO.val s rfl (aev_sound e h1)
  · split at ha
    · rename_i hc
      obtain ⟨h1, rfl⟩ := un_spec ha
      have := (aev_sound e hc).grd_inv rfl
      rw [this]
      exact SimO.val s (by simp [asBool]) (aev_sound e h1)
    · rename_i hc
      obtain ⟨h1, rfl⟩ := un_spec ha
      have := (aev_sound e hc).grd_inv rfl
      rw [this]
      exact SimO.val s (by simp [asBool]) (aev_sound e h1)
    · cases ha
  · split at ha
    · rename_i t x i hi
      cases hg : i.zero.cells.toList.all gnd with
      | false => rw [hg] at ha; cases ha
      | true =>
        rw [hg] at ha
        simp only [cond_true, Option.some.injEq, Prod.mk.injEq] at ha
        obtain ⟨rfl, rfl⟩ := ha
        have hfn : ν h.next = .un := hf h.next (Nat.le_refl _) (by simp [Hp.new])
        obtain ⟨h1, h2, h3⟩ := newRow_AR (P := P) s hfn t (AR.refl_gnd (ν := ν) hg)
        refine Sim.toO ⟨.pointer (some ⟨w.heap.size, 0, none⟩), _, _, ?_, .ptr _ _ _ i.zero.cells.size (upd_same _ _ _), h2, h3⟩
        unfold Instr.alloc
        simp only [Sem.run_bind, run_zeroValue hT hi, Result.andThen_ok, newVar, h1, Sem.run_pure]
    · cases ha
  · split at ha
    · rename_i t x0 x u hu
      simp only [Option.some.injEq] at ha
      have hfn : ν h.next = .un := hf h.next (Nat.le_refl _) (by
        have hh : h' = (abox h t u).2 := by rw [ha]
        rw [hh]; simp [abox, Hp.new])
      have := newVar_sound (P := P) s hfn t (aev_sound e hu)
      rw [ha] at this
      exact this.toO
    · cases ha
  · split at ha
    · rename_i parts l hl
      obtain ⟨h1, rfl⟩ := un_spec ha
      obtain ⟨u, hr, hv⟩ := abuild_sound hT (w := w) h1 (aparts_sound e hl)
      refine (Sim.pure s ?_ hv).toO
      rw [← hr]
      congr 2
      apply Array.ext'
      simp
    · cases ha
  · split at ha
    · rename_i parts x l hl
      have hfn : ν h.next = .un := hf h.next (Nat.le_refl _) (by
        unfold abuildSlice at ha
        split at ha
        · split at ha
          · split at ha
            · simp only at ha
              generalize hz : (Nat.ble _ _ && _) = z at ha
              cases z with
              | false => cases ha
              | true =>
                simp only [cond_true] at ha
                split at ha
                · simp only [Option.some.injEq, Prod.mk.injEq] at ha
                  rw [← ha.2]; simp [Hp.new]
                · cases ha
            · cases ha
          · cases ha
        · cases ha)
      have := abuildSlice_sound (P := P) hT s hfn ha (aparts_sound e hl)
      have e2 : (parts.map fun x => (x.1, a.eval x.2)) = (parts.toList.map fun x => (x.1, a.eval x.2)).toArray := by apply Array.ext'; simp
      rw [e2]
      exact this.toO
    · cases ha
  · split at ha
    · rename_i p hp
      obtain ⟨h1, rfl⟩ := un_spec ha
      obtain ⟨ad, u, e1, e2, e3⟩ := loadVar_sound hT s h1 (aev_sound e hp)
      rw [e1]
      exact (Sim.pure s (by simp only [Instr.loadAt, Instr.sureAddr, Sem.run_bind, Sem.run_pure, Result.andThen_ok, e2]) e3).toO
    · cases ha
  · split at ha
    · rename_i p v0 hp hv0
      split at ha
      · rename_i h1 hst
        simp only [Option.some.injEq, Prod.mk.injEq] at ha
        obtain ⟨rfl, rfl⟩ := ha
        obtain ⟨ad, w', e1, e2, e3, e4⟩ := storeVar_sound hT s hst (aev_sound e hp) (aev_sound e hv0)
        rw [e1]
        refine ⟨.skip, undef, w', ν, ?_, .inr ⟨rfl, rfl⟩, .grd _ rfl, e3, e4⟩
        simp only [Instr.storeAt, Instr.sureAddr, Sem.run_bind, Sem.run_pure, Result.andThen_ok, e2]
      · cases ha
    · cases ha
  · split at ha
    · rename_i ad hx
      simp only [Option.some.injEq, Prod.mk.injEq] at ha
      obtain ⟨rfl, rfl⟩ := ha
      have hv := aev_sound e hx
      obtain ⟨a', e1⟩ := hv.somep_inv
      rw [e1] at hv ⊢
      exact SimO.val s rfl hv
    · rename_i f b c hx
      simp only [Option.some.injEq, Prod.mk.injEq] at ha
      obtain ⟨rfl, rfl⟩ := ha
      have hv := aev_sound e hx
      obtain ⟨b', c', e1, _⟩ := hv.fn_inv
      rw [e1] at hv ⊢
      exact SimO.val s rfl hv
    · cases ha
  · split at ha
    · rename_i u v0 hu hv0
      obtain ⟨h1, rfl⟩ := un_spec ha
      obtain ⟨hr, hg⟩ := abin_sound (P := P) hT h1 (aev_sound e hu) (aev_sound e hv0) w
      exact (Sim.pure s hr (.grd _ hg)).toO
    · cases ha
  · split at ha
    · rename_i u hu
      cases hg : gnd u with
      | false => rw [hg] at ha; cases ha
      | true =>
        rw [hg] at ha
        simp only [cond_true] at ha
        obtain ⟨h1, rfl⟩ := un_spec ha
        obtain ⟨o1, o2⟩ := okG_spec h1
        rw [(aev_sound e hu).grd_inv hg]
        exact (Sim.pure s (pr_run o1 P w) (.grd _ o2)).toO
    · cases ha
  · split at ha
    · rename_i u hu
      exact (aconv_sound hT s ha (aev_sound e hu) hf).toO
    · cases ha
  · split at ha
    · rename_i fn first cap x1 x2 f c hfi hc
      simp only [Option.some.injEq, Prod.mk.injEq] at ha
      obtain ⟨rfl, rfl⟩ := ha
      have h1 := aevs_sound e hfi
      have h2 := aevs_sound e hc
      have a1 := AR.of_list h1
      have a2 := AR.of_list h2
      have e1 : (first.toList.map a.eval).toArray = first.map a.eval := by apply Array.ext'; simp
      have e2 : (cap.toList.map a.eval).toArray = cap.map a.eval := by apply Array.ext'; simp
      rw [e1] at a1
      rw [e2] at a2
      exact (Sim.pure s (v' := .func fn (first.map a.eval) (cap.map a.eval)) rfl (.fn _ _ _ _ _ a1.1 a1.2 a2.1 a2.2)).toO
    · cases ha
  · simp only [Option.some.injEq, Prod.mk.injEq] at ha
    obtain ⟨rfl, rfl⟩ := ha
    have hfn : ν h.next = .un := hf h.next (Nat.le_refl _) (by simp [Hp.new])
    obtain ⟨h2, h3⟩ := newMap_sound s hfn
    refine Sim.toO ⟨.map (some w.heap.size), _, _, ?_, .map _ _ _ (upd_same _ _ _), h2, h3⟩
    simp [Instr.makeMap, run_newObj]
  · split at ha
    · rename_i u v0 hu hv0
      exact (amakeSlice_sound hT s ha (aev_sound e hu) (aev_sound e hv0) hf).toO
    · cases ha
  · split at ha
    · rename_i t x lo hi x1 x2 x3 v0 l u hv0 hl hu
      have key : ∀ v', aslice T t v0 l u = some v' → ∃ r, (Instr.sliceAt t (a.eval x) (lo.map a.eval) (hi.map a.eval) none).run P w = .ok r w ∧ VR ν v' r := by
        intro v' hsl
        obtain ⟨r, hr, hvr⟩ := aslice_sound (P := P) (w := w) hT hsl (aev_sound e hv0) (oev_sound e hl).1 (oev_sound e hl).2 (oev_sound e hu).1 (oev_sound e hu).2
        refine ⟨r, ?_, hvr⟩
        obtain ⟨i, hi', hd⟩ := aslice_desc hsl
        have hun := hT.und _ _ hi'
        unfold Instr.sliceAt
        rw [Sem.run_bind, run_underlying hun, Result.andThen_ok]
        rcases hd with hd | ⟨e', hd⟩ <;> rw [hd] <;> exact hr
      split at ha
      · obtain ⟨h1, rfl⟩ := un_spec ha
        obtain ⟨r, hr, hvr⟩ := key _ h1
        exact (Sim.pure s hr hvr).toO
      · obtain ⟨h1, rfl⟩ := un_spec ha
        obtain ⟨r, hr, hvr⟩ := key _ h1
        exact (Sim.pure s hr hvr).toO
      · cases ha
    · cases ha
  · split at ha
    · rename_i u hu
      obtain ⟨h1, rfl⟩ := un_spec ha
      obtain ⟨r, hr, hvr⟩ := afieldAddr_sound (P := P) (w := w) hT h1 (aev_sound e hu)
      exact (Sim.pure s hr hvr).toO
    · cases ha
  · split at ha
    · rename_i u hu
      obtain ⟨h1, rfl⟩ := un_spec ha
      obtain ⟨r, hr, hvr⟩ := afield_sound (P := P) (w := w) hT h1 (aev_sound e hu)
      exact (Sim.pure s hr hvr).toO
    · cases ha
  · split at ha
    · rename_i u v0 hu hv0
      obtain ⟨h1, rfl⟩ := un_spec ha
      obtain ⟨r, hr, hvr⟩ := aindexAddr_sound (P := P) (w := w) hT h1 (aev_sound e hu) (aev_sound e hv0)
      exact (Sim.pure s hr hvr).toO
    · cases ha
  · split at ha
    · rename_i u v0 hu hv0
      obtain ⟨h1, rfl⟩ := un_spec ha
      obtain ⟨r, hr, hvr⟩ := aindex_sound (P := P) (w := w) hT h1 (aev_sound e hu) (aev_sound e hv0)
      exact (Sim.pure s hr hvr).toO
    · cases ha
  · split at ha
    · rename_i u hu
      obtain ⟨h1, rfl⟩ := un_spec ha
      obtain ⟨r, hr, hvr⟩ := aextract_sound (P := P) (w := w) h1 (aev_sound e hu)
      exact (Sim.pure s hr hvr).toO
    · cases ha
  · split at ha
    · rename_i c x b hcal
      split at ha
      · rename_i vs hvs
        have hl := aevs_sound e hvs
        show SimO P ν h w (do let d ← resolve a.eval c o.type; invoke d.target d.args) v h'
        simp only [resolve, hcal]
        exact abuiltin_sound (P := P) (vs' := c.args.map a.eval) hT s ha (by simpa using hl) hf
      · cases ha
    · cases ha
end
end Go.Ev
