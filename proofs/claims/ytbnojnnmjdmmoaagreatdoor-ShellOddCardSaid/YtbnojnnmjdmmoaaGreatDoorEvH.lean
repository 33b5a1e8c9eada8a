/- Places, parts, slices. -/
import Derived.Test.YtbnojnnmjdmmoaaGreatDoorEvG
namespace Go.Ev
variable [Sym]

def afieldAddr (T : TT) (s : TypeId) (x : Value) (f : Nat) : Option Value :=
  match x, T s with
  | .pointer (some ⟨n, off, none⟩), some i =>
    match i.desc with
    | .struct fields =>
      match fields[f]? with
      | some fd => match T fd.type with
        | some j => bif Nat.beq j.size 0 then none else some (.pointer (some ⟨n, off + fd.offset, none⟩))
        | none => none
      | none => none
    | _ => none
  | _, _ => none

def inR (k : Int) (len : Nat) : Bool := decide (0 ≤ k) && Nat.blt k.toNat len
omit [Sym] in
theorem inR_eq (k : Int) (len : Nat) : inR k len = (decide (0 ≤ k) && decide (k < len)) := by
  unfold inR
  rw [Bool.eq_iff_iff]
  simp only [Bool.and_eq_true, decide_eq_true_eq, Nat.blt_eq]
  omega

def aindexAddr (T : TT) (t : TypeId) (x ix : Value) : Option Value :=
  match T t, x, ix with
  | some i, .pointer (some ⟨n, off, none⟩), .int _ k =>
    match i.desc with
    | .array len e => match T e with
      | some j => bif inR k len then some (.pointer (some ⟨n, off + k.toNat * j.size, none⟩)) else none
      | none => none
    | _ => none
  | some i, .slice (some ⟨n, off, none⟩) len _, .int _ k =>
    match i.desc with
    | .slice e => match T e with
      | some j => bif inR k len then some (.pointer (some ⟨n, off + k.toNat * j.size, none⟩)) else none
      | none => none
    | _ => none
  | _, _, _ => none

def apart (T : TT) (t : TypeId) (cs : Array Value) (off : Nat) : Option Value :=
  match T t with
  | some i => bif isAggD i.desc then some (.agg (cs.extract off (off + i.size))) else cs[off]?
  | none => none

def afield (T : TT) (t : TypeId) (x : Value) (f : Nat) : Option Value :=
  match T t, x with
  | some i, .agg cs => match i.desc with
    | .struct fields => match fields[f]? with
      | some fd => apart T fd.type cs fd.offset
      | none => none
    | _ => none
  | _, _ => none

def aindex (T : TT) (t : TypeId) (x ix : Value) : Option Value :=
  match T t, x, ix with
  | some i, .agg cs, .int _ k => match i.desc with
    | .array len e => match T e with
      | some j => bif decide (0 ≤ k) && decide (k < len) then apart T e cs (k.toNat * j.size) else none
      | none => none
    | _ => none
  | some i, .string s, .int _ k => match i.desc with
    | .string => bif decide (0 ≤ k) then (match s[k.toNat]? with | some b => some (.int .u8 b.toNat) | none => none) else none
    | _ => none
  | _, _, _ => none

def aextract (x : Value) (i : Nat) : Option Value :=
  match x with
  | .tuple vs => vs[i]?
  | _ => none

def bnd (x : Option Value) (d : Nat) : Option Nat :=
  match x with
  | none => some d
  | some (.int _ k) => bif decide (0 ≤ k) then some k.toNat else none
  | _ => none

def aslice (T : TT) (t : TypeId) (x : Value) (lo hi : Option Value) : Option Value :=
  match T t, x with
  | some i, .string s => match i.desc with
    | .string => match bnd hi s.size with
      | some h => match bnd lo 0 with
        | some l => bif Nat.ble h s.size && Nat.ble l h then some (.string (s.extract l h)) else none
        | none => none
      | none => none
    | _ => none
  | some i, .slice (some ⟨n, off, none⟩) len ez => match i.desc with
    | .slice e => match T e, bnd hi len, bnd lo 0 with
      | some j, some h, some l =>
        bif Nat.beq j.size ez && Nat.ble h len && Nat.ble l h then
          bif Nat.beq l 0 then some (.slice (some ⟨n, off, none⟩) h ez)
          else bif Nat.beq l h then some (.slice (some ⟨n, off, some 0⟩) 0 ez)
          else some (.slice (some ⟨n, off + l * ez, none⟩) (h - l) ez)
        else none
      | _, _, _ => none
    | _ => none
  | some i, .slice none 0 0 => match i.desc with
    | .slice e => match T e, bnd hi 0, bnd lo 0 with
      | some _, some 0, some 0 => some (.slice none 0 0)
      | _, _, _ => none
    | _ => none
  | _, _ => none

section
variable {P : Program} {T : TT} (hT : TTok T P) {ν : Nat → Slot} {w : World}

theorem VR.ptr_add {n off k : Nat} {v : Value} (h : VR ν (.pointer (some ⟨n, off, none⟩)) v) : ∃ a : Addr, v = .pointer (some a) ∧ VR ν (.pointer (some ⟨n, off + k, none⟩)) (.pointer (some (a.add k))) := by
  rcases h.ptr_inv with ⟨b, s, hn, rfl⟩ | ⟨hd, a, hs, rfl⟩
  · exact ⟨_, rfl, by rw [addr_add]; exact .ptr _ _ _ s hn⟩
  · refine ⟨a, rfl, .ptrD _ _ _ hd ?_⟩
    unfold Addr.add
    split
    · exact hs
    · rfl

theorem afieldAddr_sound (hT : TTok T P) {s : TypeId} {x x' v : Value} {f : Nat} (h : afieldAddr T s x f = some v) (hx : VR ν x x') : ∃ v', (Instr.fieldAt s x' f).run P w = .ok v' w ∧ VR ν v v' := by
  unfold afieldAddr at h
  split at h
  · rename_i n off i hi
    split at h
    · rename_i fields hd
      split at h
      · rename_i fd hfd
        split at h
        · rename_i j hj
          cases hz : Nat.beq j.size 0 with
          | true => rw [hz] at h; cases h
          | false =>
            rw [hz] at h
            simp only [cond_false, Option.some.injEq] at h
            subst h
            obtain ⟨a, rfl, hv⟩ := hx.ptr_add (k := fd.offset)
            refine ⟨_, ?_, hv⟩
            have hu : P.underlying s = some (.struct fields) := by rw [hT.und _ _ hi, hd]
            have hne : ¬ j.size = 0 := fun e => by rw [e] at hz; cases hz
            unfold Instr.fieldAt
            simp only [Sem.run_bind, run_underlying hu, Result.andThen_ok, hfd, Instr.sureAddr, Sem.run_pure, fieldPlace, run_sizeOf hT hj, if_neg hne]
        · cases h
      · cases h
    · cases h
  · cases h

theorem aindexAddr_sound (hT : TTok T P) {t : TypeId} {x x' ix ix' v : Value} (h : aindexAddr T t x ix = some v) (hx : VR ν x x') (hi' : VR ν ix ix') :
    ∃ v', (Instr.indexAt t x' ix').run P w = .ok v' w ∧ VR ν v v' := by
  unfold aindexAddr at h
  simp only [inR_eq] at h
  split at h
  · rename_i i n off kk k hi
    split at h
    · rename_i len e hd
      split at h
      · rename_i j hj
        cases hb : decide (0 ≤ k) && decide (k < (len : Int)) with
        | false => rw [hb] at h; cases h
        | true =>
          rw [hb] at h
          simp only [cond_true, Option.some.injEq] at h
          subst h
          simp only [Bool.and_eq_true, decide_eq_true_eq] at hb
          rw [hi'.grd_inv rfl]
          obtain ⟨a, rfl, hv⟩ := hx.ptr_add (k := k.toNat * j.size)
          refine ⟨_, ?_, hv⟩
          have hu : P.underlying t = some (.array len e) := by rw [hT.und _ _ hi, hd]
          unfold Instr.indexAt
          simp only [asIntOf, Sem.run_bind, Sem.run_pure, Result.andThen_ok, run_underlying hu, Instr.sureAddr, hb, and_self, if_true, run_sizeOf hT hj]
      · cases h
    · cases h
  · rename_i i n off len ez kk k hi
    split at h
    · rename_i e hd
      split at h
      · rename_i j hj
        cases hb : decide (0 ≤ k) && decide (k < (len : Int)) with
        | false => rw [hb] at h; cases h
        | true =>
          rw [hb] at h
          simp only [cond_true, Option.some.injEq] at h
          subst h
          simp only [Bool.and_eq_true, decide_eq_true_eq] at hb
          rw [hi'.grd_inv rfl]
          have hu : P.underlying t = some (.slice e) := by rw [hT.und _ _ hi, hd]
          rcases hx.slc_inv with ⟨b, z, cap, hn, hl, hc, rfl⟩ | ⟨hdd, a, cap, hs, hl, rfl⟩
          · refine ⟨.pointer (some ⟨b, off + k.toNat * j.size, none⟩), ?_, .ptr _ _ _ z hn⟩
            unfold Instr.indexAt
            simp only [asIntOf, Sem.run_bind, Sem.run_pure, Result.andThen_ok, run_underlying hu, hb, and_self, if_true, run_sizeOf hT hj, addr_add]
          · refine ⟨.pointer (some (a.add (k.toNat * j.size))), ?_, .ptrD _ _ _ hdd ?_⟩
            · unfold Instr.indexAt
              simp only [asIntOf, Sem.run_bind, Sem.run_pure, Result.andThen_ok, run_underlying hu, hb, and_self, if_true, run_sizeOf hT hj]
            · unfold Addr.add; split
              · exact hs
              · rfl
      · cases h
    · cases h
  · cases h

theorem apart_sound (hT : TTok T P) {t : TypeId} {cs cs' : Array Value} {off : Nat} {v : Value} (h : apart T t cs off = some v) (hc : AR ν cs cs') : ∃ v', (part t cs' off).run P w = .ok v' w ∧ VR ν v v' := by
  unfold apart at h
  split at h
  · rename_i i hi
    cases hag : isAggD i.desc with
    | true =>
      rw [hag] at h
      simp only [cond_true, Option.some.injEq] at h
      subst h
      refine ⟨.agg (cs'.extract off (off + i.size)), ?_, ?_⟩
      · unfold part
        simp [run_isAgg hT hi, hag, run_sizeOf hT hi]
      · refine .agg _ _ (by simp [hc.1]) (fun k v u a b => ?_)
        rw [Array.getElem?_extract] at a b
        rw [← hc.1] at b
        split at a
        · rw [if_pos ‹_›] at b; exact hc.2 _ _ _ a b
        · cases a
    | false =>
      rw [hag] at h
      simp only [cond_false] at h
      obtain ⟨u, h1, h2⟩ := hc.toList.getElem? (i := off) (v := v) (by simpa using h)
      exact ⟨u, run_part hT hi hag (by simpa using h1) w, h2⟩
  · cases h

theorem afield_sound (hT : TTok T P) {t : TypeId} {x x' v : Value} {f : Nat} (h : afield T t x f = some v) (hx : VR ν x x') : ∃ v', (Instr.field t x' f).run P w = .ok v' w ∧ VR ν v v' := by
  unfold afield at h
  split at h
  · rename_i i cs hi
    split at h
    · rename_i fields hd
      split at h
      · rename_i fd hfd
        obtain ⟨cs', rfl, h1, h2⟩ := hx.agg_inv
        obtain ⟨v', hr, hv⟩ := apart_sound hT (w := w) h ⟨h1, h2⟩
        refine ⟨v', ?_, hv⟩
        have hu : P.underlying t = some (.struct fields) := by rw [hT.und _ _ hi, hd]
        unfold Instr.field
        simp only [Sem.run_bind, run_underlying hu, Result.andThen_ok, hfd, asAgg, Sem.run_pure, hr]
      · cases h
    · cases h
  · cases h

theorem aindex_sound (hT : TTok T P) {t : TypeId} {x x' ix ix' v : Value} (h : aindex T t x ix = some v) (hx : VR ν x x') (hi' : VR ν ix ix') :
    ∃ v', (Instr.index t x' ix').run P w = .ok v' w ∧ VR ν v v' := by
  unfold aindex at h
  split at h
  · rename_i i cs kk k hi
    split at h
    · rename_i len e hd
      split at h
      · rename_i j hj
        cases hb : decide (0 ≤ k) && decide (k < (len : Int)) with
        | false => rw [hb] at h; cases h
        | true =>
          rw [hb] at h
          simp only [cond_true] at h
          simp only [Bool.and_eq_true, decide_eq_true_eq] at hb
          rw [hi'.grd_inv rfl]
          obtain ⟨cs', rfl, h1, h2⟩ := hx.agg_inv
          obtain ⟨v', hr, hv⟩ := apart_sound hT (w := w) h ⟨h1, h2⟩
          refine ⟨v', ?_, hv⟩
          have hu : P.underlying t = some (.array len e) := by rw [hT.und _ _ hi, hd]
          unfold Instr.index
          simp only [asIntOf, Sem.run_bind, Sem.run_pure, Result.andThen_ok, run_underlying hu, hb, and_self, if_true, run_sizeOf hT hj, hr]
      · cases h
    · cases h
  · rename_i i s kk k hi
    split at h
    · rename_i hd
      cases hb : decide (0 ≤ k) with
      | false => rw [hb] at h; cases h
      | true =>
        rw [hb] at h
        simp only [cond_true] at h
        split at h
        · rename_i b hsb
          simp only [Option.some.injEq] at h
          subst h
          have hk := of_decide_eq_true hb
          rw [hi'.grd_inv rfl, hx.grd_inv rfl]
          refine ⟨.int .u8 b.toNat, ?_, .grd _ rfl⟩
          have hu : P.underlying t = some .string := by rw [hT.und _ _ hi, hd]
          unfold Instr.index
          simp only [asIntOf, Sem.run_bind, Sem.run_pure, Result.andThen_ok, run_underlying hu, if_pos hk, hsb]
        · cases h
    · cases h
  · cases h

theorem aextract_sound {x x' v : Value} {i : Nat} (h : aextract x i = some v) (hx : VR ν x x') : ∃ v', (Instr.extract x' i).run P w = .ok v' w ∧ VR ν v v' := by
  unfold aextract at h
  split at h
  · rename_i vs
    obtain ⟨cs', rfl, h1, h2⟩ := hx.tup_inv
    have hl := LR_of_agg h1 h2
    obtain ⟨u, hu, hv⟩ := hl.getElem? (i := i) (v := v) (by simpa using h)
    refine ⟨u, ?_, hv⟩
    have hu' : cs'[i]? = some u := by simpa using hu
    unfold Instr.extract
    simp only [hu']
    rfl
  · cases h
end
end Go.Ev
