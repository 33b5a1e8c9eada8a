/- The hints of ShellOdd's run are right. -/
import Derived.Test.YtbnojnnmjdmmoaaGreatDoorOddSym
import Derived.Laws.BitsLemmas
import Derived.Laws.Bits64
import Derived.Lib.Strings
namespace Go.Proofs
open Go.Ev

theorem fw_short (s : ByteArray) : (fw s).length ≤ 30 := by
  unfold fw fstW
  refine Nat.le_trans (List.IsPrefix.length_le (List.takeWhile_prefix _)) ?_
  have : (first30 s).data.toList.length = (first30 s).size := (Lib.size_eq _).symm
  rw [this]
  unfold first30
  rw [ByteArray.size_extract]
  omega
theorem fw_no (s : ByteArray) : ∀ b ∈ fw s, b ≠ 32 := by
  intro b hb
  unfold fw fstW at hb
  have := List.all_takeWhile (l := (first30 s).data.toList) (p := fun b => b != 32)
  simpa using List.all_eq_true.1 this b hb
theorem dig_no (m : Nat) (h : m < 1000) : ∀ b ∈ dig m, b ≠ 32 := by
  intro b hb e
  have := (dig_spec m h).2.2 b hb
  subst e
  simp at this

theorem desc_of {T : TT} {t : Nat} {d : TypeDesc} (h : (T t).map (·.desc) = some d) : ∃ i, T t = some i ∧ i.desc = d := by
  cases hT : T t with
  | none => rw [hT] at h; cases h
  | some i => rw [hT] at h; simp at h; exact ⟨i, rfl, h⟩

theorem binReal {T : TT} {op : BinOp} {t u : TypeId} {a b : Operand} {x y v : Value} (hp : plainPair x y = true) (hr : pr (binOp op t x y) = some v) (hg : gnd v = true) : opReal T (.binOp op t a b u) [x, y] = some v := by
  simp only [opReal, hp, cond_true, hr]
  unfold okG
  simp [hg]
theorem convReal {T : TT} {s d : Nat} {x : Operand} {k k1 k2 : IntKind} {n : Int} (hs : (T s).map (·.desc) = some (.int k1)) (hd : (T d).map (·.desc) = some (.int k2)) : opReal T (.convert s d x) [.int k n] = some (.int k2 (k2.wrap n)) := by
  obtain ⟨i, h1, h2⟩ := desc_of hs
  obtain ⟨j, h3, h4⟩ := desc_of hd
  simp only [opReal, h1, h3, h4]

theorem wrap_i64_small (m : Nat) (h : m < 1000) : IntKind.i64.wrap (m : Int) = m := by
  rw [IntKind.wrap_i64]; omega
theorem u64_range (n : Int) : 0 ≤ num8 n := by
  unfold num8
  rw [IntKind.wrap_u64]; omega
theorem mm_eq (n : Int) : ((mm n : Nat) : Int) = (num8 n).tmod 1000 := by
  unfold mm
  have h0 := Int.tmod_nonneg (a := num8 n) 1000 (u64_range n)
  omega

section
variable (which n mx : Int) (s : ByteArray)

theorem add_ok {vs : List Value} {v : Value} (h : hAdd vs = some v) (t u : TypeId) (x y : Operand) :
    letI := oddSym which n mx s
    vs.all isPlain = true ∧ isPlain v = true ∧ opReal (TTof Tryz.prog) (.binOp .add t x y u) (vs.map realV) = some (realV v) := by
  letI inst : Sym := oddSym which n mx s
  have hm := dig_spec (mm n) (mm_lt n)
  have hw := fw_short s
  have go : ∀ (l r : List UInt8) (k i : Nat), inst.val k = .string (bs (l ++ r)) → inst.val i = .string (bs r) → l.length < 100 → r.length < 100 →
      [Value.string (bs l), .iface i .nilFunc].all isPlain = true ∧ isPlain (tok k) = true ∧ opReal (TTof Tryz.prog) (.binOp .add t x y u) ([Value.string (bs l), .iface i .nilFunc].map realV) = some (realV (tok k)) := by
    intro l r k i hk hi h1 h2
    refine ⟨rfl, rfl, ?_⟩
    show opReal (TTof Tryz.prog) (.binOp .add t x y u) [Value.string (bs l), inst.val i] = some (inst.val k)
    rw [hi, hk]
    exact binReal rfl (add_str l r (by omega) t) rfl
  unfold hAdd at h
  split at h
  · rename_i a
    cases c1 : isStr a [116, 105, 99, 107, 32, 48] with
    | true =>
      rw [c1] at h; simp only [cond_true, Option.some.injEq] at h; subst h; rw [isStr_spec c1]
      exact go _ (dig (mm n)) 20 11 rfl rfl (by decide) (by omega)
    | false =>
    rw [c1] at h
    cases c2 : isStr a [116, 105, 99, 107, 32, 45] with
    | true =>
      rw [c2] at h; simp only [cond_true, cond_false, Option.some.injEq] at h; subst h; rw [isStr_spec c2]
      exact go _ (dig (mm n)) 21 11 rfl rfl (by decide) (by omega)
    | false =>
    rw [c2] at h
    cases c3 : isStr a [112, 105, 99, 107, 32] with
    | true =>
      rw [c3] at h; simp only [cond_true, cond_false, Option.some.injEq] at h; subst h; rw [isStr_spec c3]
      exact go _ (dig (mm n)) 22 11 rfl rfl (by decide) (by omega)
    | false =>
    rw [c3] at h
    cases c4 : isStr a [112, 105, 99, 107, 32, 57, 32] with
    | true =>
      rw [c4] at h; simp only [cond_true, cond_false, Option.some.injEq] at h; subst h; rw [isStr_spec c4]
      exact go _ (dig (mm n)) 23 11 rfl rfl (by decide) (by omega)
    | false =>
    rw [c4] at h
    cases c5 : isStr a [111, 117, 116, 115, 32] with
    | true =>
      rw [c5] at h; simp only [cond_true, cond_false, Option.some.injEq] at h; subst h; rw [isStr_spec c5]
      exact go _ (dig (mm n)) 25 11 rfl rfl (by decide) (by omega)
    | false => rw [c5] at h; cases h
  · rename_i a
    cases c1 : isStr a [114, 101, 115, 116, 32] with
    | true =>
      rw [c1] at h; simp only [cond_true, Option.some.injEq] at h; subst h; rw [isStr_spec c1]
      exact go _ (fw s) 24 7 rfl rfl (by decide) (by omega)
    | false =>
    rw [c1] at h
    cases c2 : isStr a [112, 108, 97, 110, 32] with
    | true =>
      rw [c2] at h; simp only [cond_true, cond_false, Option.some.injEq] at h; subst h; rw [isStr_spec c2]
      exact go _ (fw s) 26 7 rfl rfl (by decide) (by omega)
    | false => rw [c2] at h; cases h
  · cases h

theorem eql_ne (l : List UInt8) (hl : l ≠ []) (t : TypeId) : pr (binOp .eql t (.string (bs l)) (.string (bs []))) = some (.bool false) := by
  show pr (Op.stringOp .eql (bs l) (bs [])) = _
  unfold Op.stringOp
  have : ((bs l).toList == (bs []).toList) = false := by
    have h1 : (bs l).toList = l := by rw [ByteArray.toList_eq]; rfl
    have h2 : (bs []).toList = [] := by rw [ByteArray.toList_eq]; rfl
    rw [h1, h2]
    cases l with
    | nil => exact (hl rfl).elim
    | cons a l => rfl
  simp only [this]
  rfl

theorem tok_ne (k : Nat) (h1 : 20 ≤ k) (h2 : k ≤ 26) : ∃ l, oddVal which n s k = .string (bs l) ∧ l ≠ [] := by
  have : k = 20 ∨ k = 21 ∨ k = 22 ∨ k = 23 ∨ k = 24 ∨ k = 25 ∨ k = 26 := by omega
  rcases this with rfl | rfl | rfl | rfl | rfl | rfl | rfl <;> exact ⟨_, rfl, by simp⟩

theorem bin_ok {k : Nat} (hk : (num8 which).tmod 17 = k) {o : BinOp} {vs : List Value} {v : Value} (h : hBin k o vs = some v) (t u : TypeId) (x y : Operand) :
    letI := oddSym which n mx s
    vs.all isPlain = true ∧ isPlain v = true ∧ opReal (TTof Tryz.prog) (.binOp o t x y u) (vs.map realV) = some (realV v) := by
  letI inst : Sym := oddSym which n mx s
  unfold hBin at h
  split at h
  · exact add_ok which n mx s h t u x y
  · split at h
    · simp only [Option.some.injEq] at h
      subst h
      refine ⟨rfl, rfl, ?_⟩
      show opReal (TTof Tryz.prog) (.binOp .rem t x y u) [.int .u64 (num8 n), .int .u64 1000] = some (.int .u64 (mm n : Nat))
      refine binReal rfl ?_ rfl
      rw [mm_eq]
      rfl
    · simp only [Option.some.injEq] at h
      subst h
      refine ⟨rfl, rfl, ?_⟩
      show opReal (TTof Tryz.prog) (.binOp .rem t x y u) [.int .u64 (num8 which), .int .u64 17] = some (.int .u64 k)
      refine binReal rfl ?_ rfl
      rw [← hk]
      rfl
    · cases h
  · split at h
    · rename_i i b
      cases c1 : (Nat.ble 20 i && Nat.ble i 26) && isStr b [] with
      | false => rw [c1] at h; cases h
      | true =>
        rw [c1] at h
        simp only [cond_true, Option.some.injEq] at h
        subst h
        simp only [Bool.and_eq_true] at c1
        obtain ⟨l, hl1, hl2⟩ := tok_ne which n s i (Nat.le_of_ble_eq_true c1.1.1) (Nat.le_of_ble_eq_true c1.1.2)
        rw [isStr_spec c1.2]
        refine ⟨rfl, rfl, ?_⟩
        show opReal (TTof Tryz.prog) (.binOp .eql t x y u) [oddVal which n s i, .string (bs [])] = some (.bool false)
        rw [hl1]
        exact binReal rfl (eql_ne l hl2 t) rfl
    · cases h
  · split at h
    · simp only [Option.some.injEq] at h
      subst h
      refine ⟨rfl, rfl, ?_⟩
      show opReal (TTof Tryz.prog) (.binOp .leq t x y u) [.int .i64 (mm n : Nat), .int .i64 10000] = some (.bool true)
      refine binReal rfl ?_ rfl
      show some (Value.bool (decide (((mm n : Nat) : Int) ≤ 10000))) = _
      have := mm_lt n
      rw [decide_eq_true (by omega)]
    · cases h
  · cases h

theorem conv_ok {a b : Nat} {vs : List Value} {v : Value} (h : hConv a b vs = some v) (x : Operand) :
    letI := oddSym which n mx s
    vs.all isPlain = true ∧ isPlain v = true ∧ opReal (TTof Tryz.prog) (.convert a b x) (vs.map realV) = some (realV v) := by
  letI inst : Sym := oddSym which n mx s
  unfold hConv at h
  cases c1 : Nat.beq a 3 && Nat.beq b 34 with
  | true =>
    rw [c1] at h
    simp only [Bool.and_eq_true] at c1
    have e1 := Nat.eq_of_beq_eq_true c1.1
    have e2 := Nat.eq_of_beq_eq_true c1.2
    subst e1; subst e2
    simp only [cond_true] at h
    split at h
    · simp only [Option.some.injEq] at h
      subst h
      exact ⟨rfl, rfl, convReal Tryz.tt3 Tryz.tt34⟩
    · simp only [Option.some.injEq] at h
      subst h
      exact ⟨rfl, rfl, convReal Tryz.tt3 Tryz.tt34⟩
    · cases h
  | false =>
    rw [c1] at h
    simp only [cond_false] at h
    cases c2 : Nat.beq a 34 && Nat.beq b 3 with
    | true =>
      rw [c2] at h
      simp only [Bool.and_eq_true] at c2
      have e1 := Nat.eq_of_beq_eq_true c2.1
      have e2 := Nat.eq_of_beq_eq_true c2.2
      subst e1; subst e2
      simp only [cond_true] at h
      split at h
      · simp only [Option.some.injEq] at h
        subst h
        refine ⟨rfl, rfl, ?_⟩
        have := convReal (T := TTof Tryz.prog) (x := x) (k := .u64) (n := (mm n : Nat)) Tryz.tt34 Tryz.tt3
        rw [wrap_i64_small _ (mm_lt n)] at this
        exact this
      · cases h
    | false => rw [c2] at h; cases h

theorem hintO_ok {k : Nat} (hk : (num8 which).tmod 17 = k) : letI := oddSym which n mx s; HintOk Tryz.prog (hintO k) := by
  letI inst : Sym := oddSym which n mx s
  refine hint_real (TTof_ok _) fun o vs v h => ?_
  unfold hintO at h
  split at h
  · exact bin_ok which n mx s hk h _ _ _ _
  · exact conv_ok which n mx s h _
  · rename_i t x y
    cases c1 : Nat.beq t 9 with
    | false => rw [c1] at h; cases h
    | true =>
      rw [c1] at h
      have e := Nat.eq_of_beq_eq_true c1
      subst e
      simp only [cond_true] at h
      split at h
      · simp only [Option.some.injEq] at h
        subst h
        refine ⟨rfl, rfl, ?_⟩
        obtain ⟨i, h1, h2⟩ := desc_of Tryz.tt9
        show aslice (TTof Tryz.prog) 9 (.string s) none (some (.int .i64 ((min s.size 30 : Nat) : Int))) = some (.string (first30 s))
        unfold aslice
        simp only [h1, h2, bnd]
        rw [decide_eq_true (by omega)]
        simp only [cond_true, Int.toNat_natCast]
        rw [show Nat.ble (min s.size 30) s.size = true from Nat.ble_eq_true_of_le (by omega), show Nat.ble 0 (min s.size 30) = true from Nat.ble_eq_true_of_le (by omega)]
        rfl
      · cases h
  · rename_i c
    split at h
    · rename_i b hb
      unfold hBuilt at h
      split at h
      · split at h
        · rename_i hts
          simp only [Option.some.injEq] at h
          subst h
          refine ⟨rfl, rfl, ?_⟩
          obtain ⟨i, h1, h2⟩ := desc_of Tryz.tt9
          show opReal (TTof Tryz.prog) (.call c) [.string s] = some (.int .i64 (s.size : Nat))
          simp only [opReal, hb, hts, alen, h1, h2]
          rfl
        · cases h
      · split at h
        · simp only [Option.some.injEq] at h
          subst h
          refine ⟨rfl, rfl, ?_⟩
          show opReal (TTof Tryz.prog) (.call c) [.int .i64 (s.size : Nat), .int .i64 30] = some (.int .i64 ((min s.size 30 : Nat) : Int))
          simp only [opReal, hb]
          have : pr (Builtin.min_ #[] 0 [Value.int .i64 (s.size : Nat), .int .i64 30].toArray) = some (.int .i64 ((min s.size 30 : Nat) : Int)) := by
            show some (Value.int .i64 (if (30 : Int) < (s.size : Nat) then 30 else (s.size : Nat))) = _
            congr 2
            split <;> omega
          rw [this]
          rfl
        · cases h
      · cases h
    · cases h
  · cases h
end
end Go.Proofs
