/- Regions that draw their order: sound (6). -/
import Derived.Test.YtbnojnnmjdmmoaaGreatDoorEvU
namespace Go.Ev
variable [Sym]

section
variable {P : Program} {T : TT} {call : CallF} {ops : Array Oper} {st st' : St}

theorem adraw_cx (hT : TTok T P) (hc : CallOk P call) (h : adraw T call ops st = some st') :
    ∃ (rs : List Rc) (ws : List (Nat × Hp)), Cx P T call ops ops.toList (masks ops.toList []) rs ws st st' := by
  unfold adraw at h
  cases hs : stat ops ops.toList (masks ops.toList []) with
  | false => rw [hs] at h; cases h
  | true =>
    rw [hs] at h
    simp only [cond_true] at h
    split at h
    · rename_i rs st1 htr
      obtain ⟨s0, s2⟩ := stat_spec hs
      split at h
      · rename_i hws
        simp only [Option.some.injEq] at h
        subst h
        exact ⟨rs, [], hT, hc, rfl, rfl, hws.symm, tr_trace htr, s0, s2, rfl, fun _ _ _ _ _ _ => .inl rfl⟩
      · rename_i ws _
        generalize hz : (chain (masks ops.toList []) (wsOf ops.toList rs 0) && dynRs T (masks ops.toList []) (wsOf ops.toList rs 0) (stages (wsOf ops.toList rs 0) st1.h) ops.toList rs 0) = z at h
        cases z with
        | false => cases h
        | true =>
          simp only [cond_true, Option.some.injEq] at h
          subst h
          simp only [Bool.and_eq_true] at hz
          exact ⟨rs, wsOf ops.toList rs 0, hT, hc, rfl, rfl, rfl, tr_trace htr, s0, s2, hz.1, fun j o r ho hr hk => .inr (by
            have := dynRs_spec hz.2 j o r ho hr hk
            rwa [Nat.zero_add] at this)⟩
    · cases h

variable {M : List Nat} {rs : List Rc} {ws : List (Nat × Hp)}

theorem Cx.hAt0 (cx : Cx P T call ops ops.toList M rs ws st st') : hAt rs st'.h 0 = st.h := by
  have := cx.t.h0
  unfold hAt
  cases hr : rs[0]? with
  | none => rw [hr] at this; exact this
  | some r => rw [hr] at this; exact this
theorem Cx.nextAll (cx : Cx P T call ops ops.toList M rs ws st st') : st.h.next ≤ st'.h.next := by
  have := cx.nexts 0 rs.length (Nat.zero_le _) (Nat.le_refl _)
  rw [cx.hAt0] at this
  simpa [hAt] using this

theorem Cx.start (cx : Cx P T call ops ops.toList M rs ws st st') {ν : Nat → Slot} {a : Act} {w : World} {N : Nat} {lst : Nat → Prop} (hl : ∀ i, ¬ lst i)
    (env : EnvR ν st.τ a) (sat : Sat ν st.h w) (room : a.tmps.size = N) (defers : a.defers = []) (hf : Fresh ν st.h st'.h) :
    Inv P T call ops ops.toList M rs ws st st' ν st.h w st.h.next N lst 0 ν a w := by
  have hx := cx.XX_hAt 0
  have hwf : WF (hAt rs st'.h (wlo rs ws 0)) := by
    show WF (hAt rs st'.h 0)
    rw [cx.hAt0]
    exact sat.wf
  have hseg := cx.seg (k := 0) (Nat.zero_le _) hwf
  have hlo : wlo rs ws 0 = 0 := rfl
  obtain ⟨g1, g2, g3⟩ := hseg (wpos rs ws 0) (Nat.zero_le _) (Nat.le_refl _)
  rw [hlo, cx.hAt0] at g2
  rw [hlo] at g3
  rw [← hx] at g1 g2 g3
  have hnew : ∀ (i : Nat) (o : Oper) (r : Rc), ops.toList[i]? = some o → rs[i]? = some r → knd o r = 2 → st.h.next ≤ r.h.next ∧ r.h.next < st'.h.next := by
    intro i o r ho hr hk
    have hil : i < rs.length := (List.getElem?_eq_some_iff.1 hr).1
    have h1 := cx.nexts 0 i (Nat.zero_le _) (by omega)
    rw [cx.hAt0, hAt_of hr] at h1
    have h2 := cx.nexts (i + 1) rs.length (by omega) (Nat.le_refl _)
    rw [cx.hstep hr] at h2
    have h2' : r.h'.next ≤ st'.h.next := by simpa [hAt] using h2
    rcases cx.eff ho hr (by omega) with e | ⟨_, blk, e⟩
    · exfalso
      have hrun : r.run = true := by
        cases hr' : r.run with
        | true => rfl
        | false => unfold knd at hk; rw [hr'] at hk; cases hk
      have hy := (cx.t.yes i o r ho hr hrun).2
      have hk' : kind o.op (Nat.beq r.h'.next r.h.next) r.v = 2 := by simpa [knd, hrun] using hk
      obtain ⟨blk, e', _⟩ := kind2 rfl hk' hy
      rw [e] at e'
      have := congrArg Hp.next e'
      have e3 : (r.h.new blk).next = r.h.next + 1 := rfl
      omega
    · have e3 : r.h'.next = r.h.next + 1 := by rw [e]; rfl
      omega
  have hun : ∀ (i : Nat) (o : Oper) (r : Rc), ops.toList[i]? = some o → rs[i]? = some r → knd o r = 2 → ν r.h.next = .un := by
    intro i o r ho hr hk
    obtain ⟨a1, a2⟩ := hnew i o r ho hr hk
    exact hf _ a1 a2
  refine ⟨room, defers, Nat.zero_le _, fun j i h _ => ⟨fun x => absurd x (hl i), fun x => by omega⟩, fun i o e hi => absurd hi (hl i), fun j o r d hj => absurd hj (hl j), fun d v _ hv => env d v hv, ?_, ?_, fun i o r _ ho hr hk => hun i o r ho hr hk, fun i o r blk hi => absurd hi (hl i), ?_, ?_, ?_⟩
  · refine ⟨fun n cs E ro b s hg hn => ?_, sat.inj, sat.bound, fun n hn => ?_, g1⟩
    · rcases g2 n _ hg with x | ⟨j, o, r, _, _, ho, hr, hk, e, _⟩
      · exact sat.cells n cs E ro b s x hn
      · rw [e, hun j o r ho hr hk] at hn; cases hn
    · unfold Hp.has at hn
      cases hg : (XX ws st'.h 0).get n with
      | none => rw [hg] at hn; simp at hn
      | some b =>
        rcases g2 n b hg with x | ⟨j, o, r, _, _, ho, hr, hk, e, _⟩
        · exact sat.nodead n (by simp [Hp.has, x])
        · rw [e, hun j o r ho hr hk]; exact fun x => by cases x
  · refine ⟨fun _ _ => .inl rfl, fun _ _ e => e, fun _ _ _ => rfl, fun n b s hn e => ?_, fun n hn hlt => ?_, Nat.le_refl _, rfl, rfl, rfl⟩
    · unfold Hp.has at hn
      cases hg : (XX ws st'.h 0).get n with
      | none => rw [hg] at hn; simp at hn
      | some blk =>
        rcases g2 n blk hg with x | ⟨j, o, r, _, _, ho, hr, hk, em, _⟩
        · exact .inl ⟨n, s, by simp [Hp.has, x], e⟩
        · rw [em, hun j o r ho hr hk] at e; cases e
    · cases hg : (XX ws st'.h 0).get n with
      | none =>
        cases hg2 : st.h.get n with
        | none => rfl
        | some b =>
          have := g3 0 (Nat.zero_le _) (Nat.zero_le _) n b (by rw [cx.hAt0]; exact hg2)
          rw [this] at hg; cases hg
      | some b =>
        rcases g2 n b hg with x | ⟨j, o, r, _, _, ho, hr, hk, em, _⟩
        · exact x.symm
        · have := (hnew j o r ho hr hk).1
          omega
  · intro i o r blk _ ho hr hk hlt e
    have := g3 (i + 1) (Nat.zero_le _) (by omega) r.h.next blk (by rw [cx.hstep hr, e, Hp.get_new, if_pos rfl])
    exact this
  · intro m h1 h2 _
    refine hf m (Nat.le_trans ?_ h1) h2
    have := cx.nexts 0 (wpos rs ws 0) (Nat.zero_le _) (cx.wpos_le 0)
    rw [cx.hAt0, ← hx] at this
    exact this
  · intro i h1 h2 m b hm
    exact g3 i h1 h2 m b hm

theorem Cx.fin (cx : Cx P T call ops ops.toList M rs ws st st') {ν0 ν : Nat → Slot} {w0 w : World} {a : Act} {N k : Nat} {lst : Nat → Prop}
    (I : Inv P T call ops ops.toList M rs ws st st' ν0 st.h w0 st.h.next N lst k ν a w) (hall : ∀ i, i < ops.size → lst i) :
    Rel ν0 st.h w0 N st' ν a w := by
  have hlt : ∀ (i : Nat) (o : Oper), ops.toList[i]? = some o → lst i := fun i o ho => hall i (by have := (List.getElem?_eq_some_iff.1 ho).1; simpa using this)
  have hk : k = ws.length := by
    have h1 := I.kle
    rcases Nat.lt_or_ge k ws.length with h | h
    · exfalso
      have hq : ws[k]? = some (ws[k].1, ws[k].2) := List.getElem?_eq_getElem h
      obtain ⟨o, r, ho, _⟩ := cx.wAt hq
      have := (I.kk k _ _ hq).1 (hlt _ o ho)
      omega
    · omega
  have hX : XX ws st'.h k = st'.h := by
    unfold XX
    rw [hk, List.getElem?_eq_none (Nat.le_refl _)]
  have hs := I.sat
  rw [hX] at hs
  have hp := I.post
  rw [hX] at hp
  refine ⟨fun d v hv => ?_, hs, ⟨hp.le, hp.hi, hp.frame, hp.dom, hp.keep, hp.size, cx.nextAll, hp.os, hp.tape, hp.output⟩, I.room, I.defers⟩
  obtain ⟨h1, h2⟩ := cx.slotEnd d
  by_cases hw : ∃ (j : Nat) (oj : Oper), ops.toList[j]? = some oj ∧ oj.dst = some d
  · obtain ⟨j, oj, hj, hd⟩ := hw
    obtain ⟨rj, hrj⟩ := cx.rsAt hj
    have := h1 j oj rj hj hrj hd
    rw [hv] at this
    simp only [Option.some.injEq] at this
    subst this
    exact I.env1 j oj rj d (hlt j oj hj) hj hrj hd
  · have hno : ∀ (j : Nat) (o : Oper), ops.toList[j]? = some o → o.dst ≠ some d := fun j o ho hd => hw ⟨j, o, ho, hd⟩
    rw [h2 hno] at hv
    exact I.env2 d v (fun j o _ ho => hno j o ho) hv

theorem adraw_wp (hm : P.follows .mixedOrders = true) (hT : TTok T P) (hc : CallOk P call) (h : adraw T call ops st = some st') {n id : Nat} {ν0 : Nat → Slot} {h0 : Hp} {w0 : World} {ν : Nat → Slot} {a : Act} {w : World} {Q : Exit → Act → World → Prop}
    (hroom : roomFor n ops.toList = true) (s0 : Sat ν0 h0 w0) (g0 : Gl ν0 h0 w0) (rel : Rel ν0 h0 w0 n st ν a w) (hf : Fresh ν st.h st'.h) (hQ : ∀ ν' a' w', Rel ν0 h0 w0 n st' ν' a' w' → Q .normal a' w') : (Code.region id ops true).wp P Q a w := by
  obtain ⟨rs, ws, cx⟩ := adraw_cx hT hc h
  refine wp_region_any hm ?_
  have hl : ∀ i, ¬ lstOf (Array.replicate ops.size false) i := by
    intro i
    unfold lstOf
    simp only [Array.getD_eq_getD_getElem?, Array.getElem?_replicate]
    split <;> simp
  have I := cx.start (N := n) hl rel.env rel.sat.drew rel.room rel.defers hf
  have hu : unl (Array.replicate ops.size false) ≤ ops.size := by
    unfold unl
    refine Nat.le_trans (List.length_filter_le _ _) ?_
    simp
  exact cx.any (k0 := 0) rel.sat.drew ((g0.post rel.post).post (Post.drew ν st.h w)) (by rw [cx.hAt0]; exact Nat.le_refl _) hroom (fun lst k ν' a' w' I' hall => by
    have R := cx.fin I' hall
    exact hQ ν' a' w' ⟨R.env, R.sat, (rel.post.trans s0 (Post.drew ν st.h w)).trans s0 R.post, R.room, R.defers⟩) ops.size _ 0 ν a _ (by simp) hu I rfl

/-- The regions, both kinds. -/
def rgOf (T : TT) (call : CallF) : RgF := fun ops draw st => bif draw then adraw T call ops st else arun T call ops ops.toList st

theorem rgOf_ok (hm : P.follows .mixedOrders = true) (hT : TTok T P) (hc : CallOk P call) : RgOk P (rgOf T call) := by
  intro ops draw st st' h
  cases draw with
  | true =>
    refine ⟨?_, fun n id ν0 h0 w0 ν a w Q hroom s0 g0 rel hf hQ => adraw_wp hm hT hc h hroom s0 g0 rel hf fun ν' a' w' R => hQ ν' a' w' R rfl⟩
    obtain ⟨rs, ws, cx⟩ := adraw_cx hT hc h
    exact cx.nextAll
  | false =>
    refine ⟨arun_next hc _ _ _ h, fun n id ν0 h0 w0 ν a w Q hroom s0 g0 rel hf hQ => wp_region ?_⟩
    have := arun_wp hT hc s0 g0 n ops.toList 0 st st' ν a w h (by simp) hroom rel hf fun ν' a' w' R => hQ ν' a' w' R rfl
    rw [List.range_eq_range']
    simpa using this
end
end Go.Ev
