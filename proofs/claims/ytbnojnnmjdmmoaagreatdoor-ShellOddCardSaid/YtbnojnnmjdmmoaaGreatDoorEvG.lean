/- Operations that compute, over named blocks (2). -/
import Derived.Test.YtbnojnnmjdmmoaaGreatDoorEvF
import Derived.Laws.IdiomStrings
namespace Go.Ev
variable [Sym]

def okG (o : Option Value) : Option Value :=
  match o with
  | some v => bif gnd v then some v else none
  | none => none
omit [Sym] in
theorem okG_spec {o : Option Value} {v : Value} (h : okG o = some v) : o = some v ∧ gnd v = true := by
  unfold okG at h
  split at h
  · rename_i x
    cases hg : gnd x with
    | true => rw [hg] at h; simp only [cond_true, Option.some.injEq] at h; subst h; exact ⟨rfl, hg⟩
    | false => rw [hg] at h; cases h
  · cases h

def plainPair : Value → Value → Bool
  | .int _ _, .int _ _ => true
  | .string _, .string _ => true
  | _, _ => false

def abin (T : TT) (op : BinOp) (t : TypeId) (x y : Value) : Option Value :=
  bif plainPair x y then okG (pr (binOp op t x y))
  else match op with
    | .eql => match aeq T t x y with | some b => some (.bool b) | none => none
    | .neq => match aeq T t x y with | some b => some (.bool (!b)) | none => none
    | _ => none

section
variable {P : Program} {T : TT} (hT : TTok T P) {ν : Nat → Slot}

omit [Sym] in
theorem plainPair_gnd {x y : Value} (h : plainPair x y = true) : gnd x = true ∧ gnd y = true := by
  unfold plainPair at h
  split at h <;> first | exact ⟨rfl, rfl⟩ | cases h

theorem eqGuard_run (hT : TTok T P) {op : BinOp} {t : TypeId} {ox oy : Operand} {x y x' y' : Value} {b : Bool} (h : aeq T t x y = some b) (hx : VR ν x x') (hy : VR ν y y') (w : World) :
    (eqGuard op t ox oy x' y').run P w = .ok () w := by
  unfold aeq at h
  split at h
  · rename_i i hi
    split at h
    · split at h
      · rename_i n e hd
        split at h
        · rename_i j hj
          obtain ⟨xs', rfl, hx1, hx2⟩ := hx.agg_inv
          obtain ⟨ys', rfl, hy1, hy2⟩ := hy.agg_inv
          have hu := hT.und _ _ hi
          have hv := hT.und _ _ hj
          rw [hd] at hu
          refine run_eqGuard_agg w op t ox oy xs' ys' ?_
          have hdep : ∃ k, P.depth = k + 2 := ⟨2 * (P.types.size + Made.depth), rfl⟩
          obtain ⟨k, hk⟩ := hdep
          rw [hk]
          cases hsc : isScal j.desc with
          | false => rw [hsc] at h; cases h
          | true =>
            unfold Program.eqGuardType
            rw [hu]
            simp only
            unfold Program.eqGuardType
            rw [hv]
            unfold isScal at hsc
            split at hsc <;> first | (rename_i hh; rw [hh]) | cases hsc
        · cases h
      split at h
      · rename_i l hl
        obtain ⟨fs, hd, hfl, hg, hs⟩ := hT.eqf _ _ _ hi hl
        obtain ⟨xs', rfl, hx1, hx2⟩ := hx.agg_inv
        obtain ⟨ys', rfl, hy1, hy2⟩ := hy.agg_inv
        exact run_eqGuard_agg w op t ox oy xs' ys' hg
      · cases h
    · unfold nilEq at h
      split at h
      · obtain rfl := hx.nilp_inv; rw [eqGuard_at_pointer]; rfl
      · obtain ⟨a, rfl⟩ := hx.somep_inv; rw [eqGuard_at_pointer]; rfl
      · obtain ⟨e, _, _⟩ := hx.nilslice_inv; rw [e, eqGuard_at_slice]; rfl
      · obtain ⟨a, c, rfl⟩ := hx.somes_inv; rw [eqGuard_at_slice]; rfl
      · obtain rfl := hx.grd_inv rfl; rw [eqGuard_at_map]; rfl
      · obtain ⟨a, rfl⟩ := hx.somem_inv; rw [eqGuard_at_map]; rfl
      · obtain rfl := hx.grd_inv rfl; rw [eqGuard_at_nilFunc]; rfl
      · obtain rfl := hx.grd_inv rfl; rw [eqGuard_at_nilFunc]; rfl
      · obtain ⟨a, c, rfl, _⟩ := hx.fn_inv; rw [eqGuard_at_func]; rfl
      · obtain rfl := hx.grd_inv rfl; rw [eqGuard_at_bool]; rfl
      · cases h
  · cases h

omit [Sym] in
theorem binOp_eql_of {t : TypeId} {x y : Value} (h1 : ∀ k n, x ≠ .int k n) (h2 : ∀ k n, x ≠ .float k n) (h3 : ∀ k n m, x ≠ .complex k n m) (h4 : ∀ s, x ≠ .string s) :
    binOp .eql t x y = (do pure (.bool (← Op.equal t x y))) := by
  cases x <;> simp_all <;> cases y <;> simp [binOp]
omit [Sym] in
theorem binOp_neq_of {t : TypeId} {x y : Value} (h1 : ∀ k n, x ≠ .int k n) (h2 : ∀ k n, x ≠ .float k n) (h3 : ∀ k n m, x ≠ .complex k n m) (h4 : ∀ s, x ≠ .string s) :
    binOp .neq t x y = (do pure (.bool (!(← Op.equal t x y)))) := by
  cases x <;> simp_all <;> cases y <;> simp [binOp]

theorem aeq_shape {t : TypeId} {x y x' : Value} {b : Bool} (h : aeq T t x y = some b) (hx : VR ν x x') :
    (∀ k n, x' ≠ .int k n) ∧ (∀ k n, x' ≠ .float k n) ∧ (∀ k n m, x' ≠ .complex k n m) ∧ (∀ s, x' ≠ .string s) := by
  unfold aeq at h
  split at h
  · split at h
    · obtain ⟨xs', rfl, _, _⟩ := hx.agg_inv; simp
    · unfold nilEq at h
      split at h
      · obtain rfl := hx.nilp_inv; simp
      · obtain ⟨a, rfl⟩ := hx.somep_inv; simp
      · obtain ⟨e, _, _⟩ := hx.nilslice_inv; rw [e]; simp
      · obtain ⟨a, c, rfl⟩ := hx.somes_inv; simp
      · obtain rfl := hx.grd_inv rfl; simp
      · obtain ⟨a, rfl⟩ := hx.somem_inv; simp
      · obtain rfl := hx.grd_inv rfl; simp
      · obtain rfl := hx.grd_inv rfl; simp
      · obtain ⟨a, c, rfl, _⟩ := hx.fn_inv; simp
      · obtain rfl := hx.grd_inv rfl; simp
      · cases h
  · cases h

theorem abin_sound (hT : TTok T P) {op : BinOp} {t : TypeId} {ox oy : Operand} {x y x' y' v : Value} (h : abin T op t x y = some v) (hx : VR ν x x') (hy : VR ν y y') (w : World) :
    (do eqGuard op t ox oy x' y'; binOp op t x' y' : Sem Value).run P w = .ok v w ∧ gnd v = true := by
  unfold abin at h
  cases hp : plainPair x y with
  | true =>
    rw [hp] at h
    simp only [cond_true] at h
    obtain ⟨h1, h2⟩ := okG_spec h
    have g := plainPair_gnd hp
    rw [hx.grd_inv g.1, hy.grd_inv g.2]
    refine ⟨?_, h2⟩
    have he : (eqGuard op t ox oy x y).run P w = .ok () w := by
      unfold plainPair at hp
      split at hp
      · rw [eqGuard_at_int]; rfl
      · rw [eqGuard_at_string]; rfl
      · cases hp
    rw [Sem.run_bind, he]
    exact pr_run h1 P w
  | false =>
    rw [hp] at h
    simp only [cond_false] at h
    split at h
    · split at h
      · rename_i b hb
        simp only [Option.some.injEq] at h
        subst h
        refine ⟨?_, rfl⟩
        obtain ⟨s1, s2, s3, s4⟩ := aeq_shape hb hx
        rw [Sem.run_bind, eqGuard_run hT hb hx hy, Result.andThen_ok, binOp_eql_of s1 s2 s3 s4, Sem.run_bind, aeq_run hT hb hx hy]
        rfl
      · cases h
    · split at h
      · rename_i b hb
        simp only [Option.some.injEq] at h
        subst h
        refine ⟨?_, rfl⟩
        obtain ⟨s1, s2, s3, s4⟩ := aeq_shape hb hx
        rw [Sem.run_bind, eqGuard_run hT hb hx hy, Result.andThen_ok, binOp_neq_of s1 s2 s3 s4, Sem.run_bind, aeq_run hT hb hx hy]
        rfl
      · cases h
    · cases h
end

/-! ### Conversions -/
def bytesOf : List Value → Option (List UInt8)
  | [] => some []
  | .int .u8 n :: r => match bytesOf r with | some l => some (UInt8.ofNat n.toNat :: l) | none => none
  | _ :: _ => none
omit [Sym] in
theorem bytesOf_spec : ∀ {l : List Value} {r : List UInt8}, bytesOf l = some r → ∃ ns : List Int, l = ns.map (Value.int .u8) ∧ r = ns.map fun n => UInt8.ofNat n.toNat
  | [], r, h => by simp only [bytesOf, Option.some.injEq] at h; exact ⟨[], rfl, h.symm⟩
  | v :: l, r, h => by
    unfold bytesOf at h
    split at h
    · rename_i e; cases e
    · rename_i n q e
      simp only [List.cons.injEq] at e
      obtain ⟨rfl, rfl⟩ := e
      split at h
      · rename_i l' hl'
        simp only [Option.some.injEq] at h
        obtain ⟨ns, e1, e2⟩ := bytesOf_spec hl'
        exact ⟨n :: ns, by rw [e1]; rfl, by rw [← h, e2]; rfl⟩
      · cases h
    · cases h
omit [Sym] in
theorem foldl_push : ∀ (ns : List Int) (r : ByteArray), ns.foldl (fun r n => r.push (UInt8.ofNat n.toNat)) r = ⟨r.data ++ (ns.map fun n => UInt8.ofNat n.toNat).toArray⟩
  | [], r => by simp
  | n :: ns, r => by
    simp only [List.foldl_cons]
    rw [foldl_push ns]
    simp [ByteArray.push]

def aconv (T : TT) (src dst : TypeId) (x : Value) (h : Hp) : Option (Value × Hp) :=
  match T src, T dst, x with
  | some _, some d, .int _ n => match d.desc with | .int k => some (.int k (k.wrap n), h) | _ => none
  | some s, some d, .string b =>
    match d.desc with
    | .string => some (x, h)
    | .slice e =>
      match T e, s.desc with
      | some ie, .string => match ie.desc with
        | .int .u8 => some (.slice (some ⟨h.next, 0, none⟩) b.size 1, h.new (.cells (b.data.toList.map fun c => .int .u8 c.toNat) e true))
        | _ => none
      | _, _ => none
    | _ => none
  | some s, some d, .slice (some ⟨n, off, none⟩) len _ =>
    match s.desc, d.desc with
    | .slice e, .string =>
      match T e with
      | some ie => match ie.desc with
        | .int .u8 => match ldRow h n off len with
          | some l => match bytesOf l with | some b => some (.string ⟨b.toArray⟩, h) | none => none
          | none => none
        | _ => none
      | none => none
    | _, _ => none
  | some s, some d, .slice none _ _ =>
    match s.desc, d.desc with
    | .slice e, .string =>
      match T e with
      | some ie => match ie.desc with
        | .int .u8 => some (.string .empty, h)
        | _ => none
      | none => none
    | _, _ => none
  | _, _, _ => none

section
variable {P : Program} {T : TT} {ν : Nat → Slot} {h : Hp} {w : World}

omit [Sym] in
theorem freeze_alloc (w : World) (c : Array Value) (e : TypeId) (n : Nat) :
    (w.alloc (.cells c e)).freeze ⟨w.heap.size, n, none⟩ 1 = w.alloc (.cells c e (n, n + 1)) := by
  unfold World.freeze World.alloc
  simp only [Nat.one_ne_zero, if_false]
  congr 1
  apply Array.ext_getElem?
  intro k
  rw [Array.getElem?_modify]
  by_cases hk : w.heap.size = k
  · subst hk; simp
  · rw [if_neg hk, Array.getElem?_push, Array.getElem?_push, if_neg (fun x => hk x.symm), if_neg (fun x => hk x.symm)]

theorem aconv_sound (hT : TTok T P) (s : Sat ν h w) {src dst : TypeId} {x x' v : Value} {h' : Hp} (ha : aconv T src dst x h = some (v, h')) (hx : VR ν x x') (hf : Fresh ν h h') :
    Sim P ν h w (convert src dst x') v h' := by
  unfold aconv at ha
  split at ha
  · rename_i i d k0 n hi hd
    split at ha
    · rename_i k hk
      simp only [Option.some.injEq, Prod.mk.injEq] at ha
      obtain ⟨rfl, rfl⟩ := ha
      rw [hx.grd_inv rfl]
      refine Sim.pure s (v' := .int k (k.wrap n)) ?_ (.grd _ rfl)
      have h1 := hT.und _ _ hi
      have h2 : P.underlying dst = some (.int k) := by rw [hT.und _ _ hd, hk]
      unfold convert
      simp [run_underlying h1, run_underlying h2, Conv.intToInt]
    · cases ha
  · rename_i i d b hi hd
    split at ha
    · rename_i hk
      simp only [Option.some.injEq, Prod.mk.injEq] at ha
      obtain ⟨rfl, rfl⟩ := ha
      rw [hx.grd_inv rfl]
      refine Sim.pure s (v' := .string b) ?_ (.grd _ rfl)
      have h1 := hT.und _ _ hi
      have h2 : P.underlying dst = some .string := by rw [hT.und _ _ hd, hk]
      unfold convert
      simp [run_underlying h1, run_underlying h2]
    · rename_i e he
      split at ha
      · rename_i ie hie hsd
        split at ha
        · rename_i hu8
          simp only [Option.some.injEq, Prod.mk.injEq] at ha
          obtain ⟨rfl, rfl⟩ := ha
          rw [hx.grd_inv rfl]
          have hfn : ν h.next = .un := hf h.next (Nat.le_refl _) (by simp [Hp.new])
          generalize hcap : Question.cut (.appendCap b.size 0 e) (w.tape w.drawn (.appendCap b.size 0 e)) = cap
          have hge : b.size ≤ cap := by rw [← hcap]; simp [Question.cut]
          generalize hc : (b.data.map fun c => Value.int .u8 c.toNat) ++ Array.replicate (cap - b.size) (Value.int .u8 0) = c
          have hcs : c.size = cap := by
            rw [← hc, Array.size_append, Array.size_map, Array.size_replicate]
            have : b.data.size = b.size := rfl
            omega
          have S := new_sound (s.drew) hfn (cs := b.data.toList.map fun c => .int .u8 c.toNat) (c := c) e true (cap, cap + 1) (fun x => by cases x)
            (by rw [hcs]; simp; exact hge)
            (fun i v hv => by
              refine ⟨v, ?_, ?_⟩
              · rw [← hc, Array.getElem?_append_left]
                · simpa using hv
                · have := (List.getElem?_eq_some_iff.1 hv).1; simpa using this
              · simp at hv; obtain ⟨y, _, rfl⟩ := hv; exact .grd _ rfl)
          have hq : (Question.appendCap b.size 0 e).forced = false := rfl
          have h1 : P.underlying src = some .string := by rw [hT.und _ _ hi, hsd]
          have h2 : P.underlying dst = some (.slice e) := by rw [hT.und _ _ hd, he]
          have h3 : P.underlying e = some (.int .u8) := by rw [hT.und _ _ hie, hu8]
          refine ⟨.slice (some ⟨w.heap.size, 0, none⟩) b.size cap, w.drew.alloc (.cells c e (cap, cap + 1)), _, ?_, ?_, S.1, (Post.drew ν h w).trans s S.2⟩
          · unfold convert
            simp only [Sem.run_bind, run_underlying h1, run_underlying h2, run_underlying h3, Result.andThen_ok]
            unfold Conv.stringToBytes
            simp only [Sem.run_bind, run_choose, hq, Bool.false_eq_true, if_false, hcap, Result.andThen_ok, World.drew_eq]
            rw [hc]
            simp only [newRow, Sem.run_bind, run_newObj, World.alloc_eq, Result.andThen_ok, Sem.run_pure, markStringish, run_shape]
            have hsh : (w.drew.alloc (.cells c e)).shape? w.heap.size = some (e, cap) := by
              unfold World.shape?
              rw [show w.heap.size = w.drew.heap.size from rfl, heap_alloc_new]
              simp [hcs]
            simp only [show w.drew.heap.size = w.heap.size from rfl, hsh, run_freeze, Result.andThen_ok]
            rw [show w.heap.size = w.drew.heap.size from rfl, freeze_alloc]
          · refine .slc _ _ _ _ _ c.size _ (upd_same _ _ _) hge ?_
            omega
        · cases ha
      · cases ha
    · cases ha
  · rename_i i d n off len e0 hi hd
    split at ha
    · rename_i e hsd hdd
      split at ha
      · rename_i ie hie
        split at ha
        · rename_i hu8
          split at ha
          · rename_i l hl
            split at ha
            · rename_i bs hbs
              simp only [Option.some.injEq, Prod.mk.injEq] at ha
              obtain ⟨rfl, rfl⟩ := ha
              obtain ⟨ns, e1, e2⟩ := bytesOf_spec hbs
              have h1 : P.underlying src = some (.slice e) := by rw [hT.und _ _ hi, hsd]
              have h2 : P.underlying dst = some .string := by rw [hT.und _ _ hd, hdd]
              have h3 : P.underlying e = some (.int .u8) := by rw [hT.und _ _ hie, hu8]
              rcases hx.slc_inv with ⟨b, z, cap, hn, hlc, hcc, rfl⟩ | ⟨hdead, _⟩
              · obtain ⟨b', l', e3, hr, hLR⟩ := ldRow_sound P s hl (.ptr n off b z hn)
                simp only [Value.pointer.injEq, Option.some.injEq, Addr.mk.injEq, and_true] at e3
                obtain rfl := e3
                have e4 : l' = ns.map (Value.int .u8) := by
                  subst e1
                  apply List.ext_getElem?
                  intro j
                  rcases Nat.lt_or_ge j l'.length with hj | hj
                  · have hj2 : j < (ns.map (Value.int .u8)).length := by rw [hLR.1]; exact hj
                    have q1 := List.getElem?_eq_getElem hj
                    have q2 := List.getElem?_eq_getElem hj2
                    have := hLR.2 j _ _ q2 q1
                    rw [q1, q2]
                    simp only [List.getElem_map] at this ⊢
                    rw [this.grd_inv rfl]
                  · rw [List.getElem?_eq_none hj, List.getElem?_eq_none (by rw [hLR.1]; exact hj)]
                subst e4
                refine Sim.pure s (v' := .string ⟨bs.toArray⟩) ?_ (.grd _ rfl)
                rw [run_convert_bytes_string w src dst e _ _ _ h1 h3 h2, run_bytesToString w _ _ _ ns hr, foldl_push, e2]
                have he0 : ByteArray.empty.data = #[] := rfl
                rw [he0]
                simp
              · unfold ldRow at hl
                split at hl
                · rename_i cs T2 ro hg
                  exact (s.nodead n (by simp [Hp.has, hg]) hdead).elim
                · cases hl
            · cases ha
          · cases ha
        · cases ha
      · cases ha
    · cases ha
  · rename_i i d n0 e0 hi hd
    split at ha
    · rename_i e hsd hdd
      split at ha
      · rename_i ie hie
        split at ha
        · rename_i hu8
          simp only [Option.some.injEq, Prod.mk.injEq] at ha
          obtain ⟨rfl, rfl⟩ := ha
          have h1 : P.underlying src = some (.slice e) := by rw [hT.und _ _ hi, hsd]
          have h2 : P.underlying dst = some .string := by rw [hT.und _ _ hd, hdd]
          have h3 : P.underlying e = some (.int .u8) := by rw [hT.und _ _ hie, hu8]
          obtain ⟨e, _, _⟩ := hx.nilslice_inv
          subst e
          refine Sim.pure s (v' := .string .empty) ?_ (.grd _ rfl)
          rw [run_convert_bytes_string w src dst _ _ _ _ h1 h3 h2]
          rfl
        · cases ha
      · cases ha
    · cases ha
  · cases ha
end
end Go.Ev
