/- Append and copy; lengths. -/
import Derived.Test.YtbnojnnmjdmmoaaGreatDoorEvI
import Derived.Laws.AppendOwn
namespace Go.Ev
variable [Sym]

section
variable {P : Program} {T : TT} {ν : Nat → Slot} {h : Hp} {w : World}

theorem rowS (s : Sat ν h w) {n off k len ez : Nat} {l : List Value} {v' : Value} (hl : ldRow h n off k = some l) (hv : VR ν (.slice (some ⟨n, off, none⟩) len ez) v') :
    ∃ (b cap : Nat) (l' : List Value), v' = .slice (some ⟨b, off, none⟩) len cap ∧ len ≤ cap ∧ LR ν l l' ∧ l.length = k ∧ ∀ (j : Nat) (v : Value), l'[j]? = some v → w.cell? ((⟨b, off, none⟩ : Addr).add j) = some v := by
  unfold ldRow at hl
  split at hl
  · rename_i cs E ro hg
    obtain ⟨b, cap, c, fr, hn, hle, hcap, rfl, hb, hfr, hsz, hc⟩ := s.slc hv hg
    simp only at hl
    cases hq : Nat.beq ((cs.drop off).take k).length k with
    | false => rw [hq] at hl; cases hl
    | true =>
      rw [hq] at hl
      have hk := Nat.eq_of_beq_eq_true hq
      simp only [cond_true, Option.some.injEq] at hl
      subst hl
      refine ⟨b, cap, _, rfl, hle, row_LR hsz hc hk, hk, fun j v hv => ?_⟩
      rw [take_drop_get] at hv
      split at hv
      · rw [addr_add, cell_of_row w b (off + j) c E fr hb]; simpa using hv
      · cases hv
  · cases hl

omit [Sym] in
theorem run_append_zero {t ty e : TypeId} {i : TypeInfo} (ht : P.underlying t = some (.slice e)) (hi : P.info? e = some i) (base xb : Option Addr) (n c xc : Nat) (hn : n ≤ c) (w : World) :
    (Builtin.append_ #[t, t] ty #[.slice base n c, .slice xb 0 xc]).run P w = .ok (.slice base n c) w := by
  cases base <;> cases xb <;> simp [Builtin.append_, run_underlying ht, sizeOf, typeInfo, hi, Builtin.lenOf, hn, Builtin.firstCells, loadCells, loadCellsFrom, storeCells]

def aappend (T : TT) (t : TypeId) (s x : Value) (h : Hp) : Option (Value × Hp) :=
  match T t with
  | some i => match i.desc with
    | .slice e => match T e with
      | some j =>
        match x with
        | .slice xa k _ =>
          bif Nat.beq k 0 then
            match s with
            | .slice (some ⟨_, _, none⟩) _ _ => some (s, h)
            | .slice none 0 0 => some (s, h)
            | _ => none
          else match xa with
            | some ⟨m, mo, none⟩ => match ldRow h m mo (k * j.size) with
              | some news =>
                match s with
                | .slice none 0 0 =>
                  bif Nat.ble (k * j.bytes) 140737488355328 && Nat.ble k 4611686018427387904 && Nat.beq j.zero.cells.size j.size then
                    some (.slice (some ⟨h.next, 0, none⟩) k j.size, h.new (.cells news e false))
                  else none
                | .slice (some ⟨n, 0, none⟩) len ez =>
                  match h.get n with
                  | some (.cells cs E false) =>
                    bif Nat.beq ez j.size && Nat.beq E e && Nat.ble (len * j.size) cs.length && Nat.ble ((len + k) * j.bytes) 140737488355328 && Nat.ble (len + k) 4611686018427387904 && Nat.beq j.zero.cells.size j.size && news.all flat then
                      some (.slice (some ⟨h.next, 0, none⟩) (len + k) ez, (h.kill n).new (.cells (cs.take (len * j.size) ++ news) e false))
                    else none
                  | _ => none
                | _ => none
              | none => none
            | _ => none
        | _ => none
      | none => none
    | _ => none
  | none => none

theorem VR.slice_any {a : Option Addr} {n e : Nat} {v' : Value} (h : VR ν (.slice a n e) v') : ∃ a' c, v' = .slice a' n c := by
  cases h with
  | grd _ _ => exact ⟨_, _, rfl⟩
  | slc => exact ⟨_, _, rfl⟩
  | slcD => exact ⟨_, _, rfl⟩
  | slc0 => exact ⟨_, _, rfl⟩

omit [Sym] in
theorem size_zeroCells' (z : Array Value) (n : Nat) : (Builtin.zeroCells z n).size = n * z.size := by simp [Builtin.zeroCells]

theorem aappend_sound (hT : TTok T P) (s : Sat ν h w) {t ty : TypeId} {x x' y y' v : Value} {h' : Hp} (ha : aappend T t x y h = some (v, h')) (hx : VR ν x x') (hy : VR ν y y') (hf : Fresh ν h h') :
    Sim P ν h w (Builtin.append_ #[t, t] ty #[x', y']) v h' := by
  unfold aappend at ha
  split at ha
  · rename_i i hit
    split at ha
    · rename_i e hd
      split at ha
      · rename_i j hj
        have hu : P.underlying t = some (.slice e) := by rw [hT.und _ _ hit, hd]
        obtain ⟨ji, hji, hjs, hjb, hjz⟩ := hT.info _ _ hj
        split at ha
        · rename_i xa k kc
          cases hk : Nat.beq k 0 with
          | true =>
            rw [hk] at ha
            simp only [cond_true] at ha
            have hk := Nat.eq_of_beq_eq_true hk
            subst hk
            obtain ⟨ya, yc, rfl⟩ := hy.slice_any
            split at ha
            · rename_i n off len ez
              simp only [Option.some.injEq, Prod.mk.injEq] at ha
              obtain ⟨rfl, rfl⟩ := ha
              rcases hx.slc_inv with ⟨b, z, cap, hn, hl, hcz, rfl⟩ | ⟨hdd, a, cap, hs, hl, rfl⟩
              · exact Sim.pure s (run_append_zero hu hji _ _ _ _ _ hl w) hx
              · exact Sim.pure s (run_append_zero hu hji _ _ _ _ _ hl w) hx
            · simp only [Option.some.injEq, Prod.mk.injEq] at ha
              obtain ⟨rfl, rfl⟩ := ha
              obtain ⟨ex, _, _⟩ := hx.nilslice_inv
              rw [ex]
              exact Sim.pure s (run_append_zero hu hji _ _ _ _ _ (Nat.le_refl _) w) (.grd _ rfl)
            · cases ha
          | false =>
            rw [hk] at ha
            simp only [cond_false] at ha
            have hk0 : 0 < k := by
              rcases Nat.eq_zero_or_pos k with e0 | e0
              · rw [e0] at hk; cases hk
              · exact e0
            split at ha
            · rename_i m mo
              split at ha
              · rename_i news hnews
                obtain ⟨bm, capm, news', rfl, hlem, hLRn, hlenn, hcell⟩ := rowS s hnews hy
                have hlen' : news'.length = k * ji.size := by rw [← hLRn.1, hlenn, hjs]
                split at ha
                · cases hc : Nat.ble (k * j.bytes) 140737488355328 && Nat.ble k 4611686018427387904 && Nat.beq j.zero.cells.size j.size with
                  | false => rw [hc] at ha; cases ha
                  | true =>
                    rw [hc] at ha
                    simp only [cond_true, Option.some.injEq, Prod.mk.injEq] at ha
                    obtain ⟨rfl, rfl⟩ := ha
                    simp only [Bool.and_eq_true] at hc
                    have hc1 := Nat.le_of_ble_eq_true hc.1.1
                    have hc2 := Nat.le_of_ble_eq_true hc.1.2
                    have hc3 := Nat.eq_of_beq_eq_true hc.2
                    obtain ⟨ex, _, _⟩ := hx.nilslice_inv
                    rw [ex]
                    have hfn : ν h.next = .un := hf h.next (Nat.le_refl _) (by simp [Hp.new])
                    have hr := run_append_nil (P := P) w t ty e ji j.zero hu hji hjz ⟨bm, mo, none⟩ k capm news' hlen' hcell hk0 (by omega) (by rw [hjb]; omega)
                    have hge := grownCap_ge w k 0 e
                    generalize hcc : news'.toArray ++ Builtin.zeroCells j.zero.cells (grownCap w k 0 e - k) = cc at hr
                    have S := new_sound (s.drew) hfn (cs := news) (c := cc) e false (0, 0) (fun _ => rfl)
                      (by rw [← hcc]; have := hLRn.1; simp; omega)
                      (fun i v hv => by
                        obtain ⟨u, hu1, hu2⟩ := hLRn.getElem? hv
                        refine ⟨u, ?_, hu2⟩
                        rw [← hcc, Array.getElem?_append_left (by have := (List.getElem?_eq_some_iff.1 hu1).1; simpa using this)]
                        simpa using hu1)
                    refine ⟨_, _, _, hr, ?_, S.1, (Post.drew ν h w).trans s S.2⟩
                    refine .slc _ _ _ _ _ cc.size _ (upd_same _ _ _) hge ?_
                    have hsz : cc.size = k * j.size + (grownCap w k 0 e - k) * j.size := by
                      rw [← hcc, Array.size_append, size_zeroCells', hc3, List.size_toArray, hlen', hjs]
                    rw [hsz, ← Nat.add_mul, Nat.zero_add]
                    exact Nat.mul_le_mul_right _ (by omega)
                · rename_i n len ez
                  split at ha
                  · rename_i cs E hg
                    cases hc : Nat.beq ez j.size && Nat.beq E e && Nat.ble (len * j.size) cs.length && Nat.ble ((len + k) * j.bytes) 140737488355328 && Nat.ble (len + k) 4611686018427387904 && Nat.beq j.zero.cells.size j.size && news.all flat with
                    | false => rw [hc] at ha; cases ha
                    | true =>
                      rw [hc] at ha
                      simp only [cond_true, Option.some.injEq, Prod.mk.injEq] at ha
                      obtain ⟨rfl, rfl⟩ := ha
                      simp only [Bool.and_eq_true] at hc
                      obtain ⟨⟨⟨⟨⟨⟨c1, c2⟩, c3⟩, c4⟩, c5⟩, c6⟩, c7⟩ := hc
                      have c1 := Nat.eq_of_beq_eq_true c1
                      have c2 := Nat.eq_of_beq_eq_true c2
                      have c3 := Nat.le_of_ble_eq_true c3
                      have c4 := Nat.le_of_ble_eq_true c4
                      have c5 := Nat.le_of_ble_eq_true c5
                      have c6 := Nat.eq_of_beq_eq_true c6
                      subst c1
                      subst c2
                      obtain ⟨b, cap, c, fr, hn, hle, hcap, rfl, hb, hfr, hsz, hcc⟩ := s.slc hx hg
                      have hfr := hfr rfl
                      subst hfr
                      have hfn : ν h.next = .un := hf h.next (Nat.le_refl _) (by simp [Hp.new, Hp.kill])
                      have hh : h.has n := by simp [Hp.has, hg]
                      have hll : len * j.size ≤ cap * j.size := Nat.mul_le_mul_right _ hle
                      have hlz : len * j.size ≤ c.size := by omega
                      by_cases hroom : len + k ≤ cap
                      · have hfit : len * ji.size + news'.length ≤ c.size := by
                          rw [hlen', hjs, ← Nat.add_mul]
                          have := Nat.mul_le_mul_right j.size hroom
                          omega
                        have hr := run_append_room (P := P) w t ty E ji hu hji b len cap c hb ⟨bm, mo, none⟩ k capm news' hlen' hcell (LR.flat hLRn c7) hroom hfit
                        rw [hjs] at hr hfit
                        have hc2z : (c.toList.take (len * j.size) ++ news' ++ c.toList.drop (len * j.size + news'.length)).toArray.size = c.size := by simp; omega
                        have S := again_sound s hfn hg hn hb hc2z (cs2 := cs.take (len * j.size) ++ news)
                          (by rw [hc2z]; have := hLRn.1; simp; omega)
                          (fun i v hv => by
                            rw [List.getElem?_append] at hv
                            split at hv
                            · rename_i hi
                              rw [List.getElem?_take] at hv
                              have hi' : i < len * j.size := by simp at hi; omega
                              rw [if_pos hi'] at hv
                              obtain ⟨u, hu1, hu2⟩ := hcc i v hv
                              refine ⟨u, ?_, hu2⟩
                              rw [List.getElem?_toArray, List.append_assoc, List.getElem?_append_left (by simp; omega), List.getElem?_take, if_pos hi']
                              simpa using hu1
                            · rename_i hi
                              obtain ⟨u, hu1, hu2⟩ := hLRn.getElem? hv
                              refine ⟨u, ?_, hu2⟩
                              have hz1 : (cs.take (len * j.size)).length = len * j.size := by simp; omega
                              have hz2 : (c.toList.take (len * j.size)).length = len * j.size := by simp; omega
                              rw [hz1] at hu1 hi
                              have hlt := (List.getElem?_eq_some_iff.1 hu1).1
                              rw [List.getElem?_toArray, List.append_assoc, List.getElem?_append_right (by rw [hz2]; omega), List.getElem?_append_left (by rw [hz2]; exact hlt), hz2]
                              exact hu1)
                        refine ⟨_, _, _, hr, ?_, S.1, S.2⟩
                        exact .slc _ _ _ _ _ c.size _ (upd_same _ _ _) hroom hcap
                      · have holds : ∀ (q : Nat) (v : Value), (c.toList.take (len * ji.size))[q]? = some v → w.cell? ((⟨b, 0, none⟩ : Addr).add q) = some v := by
                          intro q v hv
                          rw [List.getElem?_take] at hv
                          split at hv
                          · rw [addr_add, cell_of_row w b (0 + q) c E (0, 0) hb]; simpa using hv
                          · cases hv
                        have hr := run_append_grow (P := P) w t ty E ji j.zero hu hji hjz ⟨b, 0, none⟩ len cap (c.toList.take (len * ji.size)) (by rw [hjs]; simp; omega) holds ⟨bm, mo, none⟩ k capm news' hlen' hcell (by omega) (by omega)
                          (growslice_fits (by omega) (by rw [hjb]; exact c4))
                        rw [hjs] at hr
                        have hge := grownCap_ge w (len + k) cap E
                        generalize hccx : (c.toList.take (len * j.size)).toArray ++ news'.toArray ++ Builtin.zeroCells j.zero.cells (grownCap w (len + k) cap E - (len + k)) = cc at hr
                        have K := kill_sound s.drew hh (by rw [hn]; exact fun x => by cases x)
                        have hfn' : upd ν n .dead h.next = .un := by
                          rw [upd_other _ _ (fun e => by rw [e, hn] at hfn; cases hfn)]; exact hfn
                        have hz1 : (cs.take (len * j.size)).length = len * j.size := by simp; omega
                        have hz2 : (c.toList.take (len * j.size)).length = len * j.size := by simp; omega
                        have hmono : Le ν (upd ν n .dead) := K.2.Le
                        have S := new_sound K.1 hfn' (cs := cs.take (len * j.size) ++ news) (c := cc) E false (0, 0) (fun _ => rfl)
                          (by rw [← hccx]; have := hLRn.1; simp; omega)
                          (fun i v hv => by
                            rw [List.getElem?_append] at hv
                            split at hv
                            · rename_i hi
                              rw [hz1] at hi
                              rw [List.getElem?_take, if_pos hi] at hv
                              obtain ⟨u, hu1, hu2⟩ := hcc i v hv
                              refine ⟨u, ?_, hu2.mono hmono⟩
                              rw [← hccx, Array.getElem?_append_left (by simp; omega), Array.getElem?_append_left (by simp; omega), List.getElem?_toArray, List.getElem?_take, if_pos hi]
                              simpa using hu1
                            · rename_i hi
                              obtain ⟨u, hu1, hu2⟩ := hLRn.getElem? hv
                              refine ⟨u, ?_, hu2.mono hmono⟩
                              rw [hz1] at hu1 hi
                              have hlt := (List.getElem?_eq_some_iff.1 hu1).1
                              rw [← hccx, Array.getElem?_append_left (by simp; omega), Array.getElem?_append_right (by simp; omega), List.getElem?_toArray, List.size_toArray, hz2]
                              exact hu1)
                        refine ⟨_, _, _, hr, ?_, S.1, ((Post.drew ν h w).trans s K.2).trans s S.2⟩
                        refine .slc _ _ _ _ _ cc.size _ (upd_same _ _ _) hge ?_
                        have hszc : cc.size = (len + k) * j.size + (grownCap w (len + k) cap E - (len + k)) * j.size := by
                          rw [← hccx, Array.size_append, Array.size_append, size_zeroCells', c6, List.size_toArray, List.size_toArray, hz2, hlen', hjs, Nat.add_mul len k]
                        rw [hszc, ← Nat.add_mul, Nat.zero_add]
                        exact Nat.mul_le_mul_right _ (by omega)
                  · cases ha
                · cases ha
              · cases ha
            · cases ha
        · cases ha
      · cases ha
    · cases ha
  · cases ha
end
end Go.Ev
