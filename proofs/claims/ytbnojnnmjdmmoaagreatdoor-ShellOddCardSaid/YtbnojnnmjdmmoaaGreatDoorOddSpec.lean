/- What is told of functions in ShellOdd's run is right. -/
import Derived.Test.YtbnojnnmjdmmoaaGreatDoorOddDefs
import Derived.Test.YtbnojnnmjdmmoaaGreatDoorOddHint
import Derived.Test.YtbnojnnmjdmmoaaGreatDoorOddUse
import Derived.Test.YtbnojnnmjdmmoaaGreatDoorOddSpeaks
import Derived.Test.YtbnojnnmjdmmoaaGreatDoorOddDigA
import Derived.Test.YtbnojnnmjdmmoaaGreatDoorOddDigB
import Derived.Test.YtbnojnnmjdmmoaaGreatDoorOddDigC
namespace Go.Proofs
open Go.Ev

theorem noNum : (Tryz.prog.funcs.toList.all fun fn => !(fn.name == "runtime.NumGoroutine")) = true := by kernel_rfl
theorem noNum_at (f : Nat) (fn : Func) (h : Tryz.prog.funcs[f]? = some fn) : (fn.name == "runtime.NumGoroutine") = false := by
  have := List.all_eq_true.1 noNum fn (by rw [Array.mem_toList_iff]; exact Array.mem_of_getElem? h)
  simpa using this
theorem follows_mixed : Tryz.prog.follows .mixedOrders = true := by kernel_rfl
theorem pow10_at : Tryz.prog.globalNamed "internal/strconv.uint64pow10" = some 1 := by kernel_rfl

theorem decD_eq : ∀ (k n : Nat), n < 10 ^ (k + 1) → decD (k + 1) n = Lib.decDigits n
  | 0, n, h => by
    have h' : n < 10 := by simpa using h
    rw [Lib.decDigits, dif_pos h']
    unfold decD
    rw [show Nat.blt n 10 = true from by simpa [Nat.blt_eq] using h']
    rfl
  | k + 1, n, h => by
    rw [Lib.decDigits]
    unfold decD
    by_cases h' : n < 10
    · rw [dif_pos h', show Nat.blt n 10 = true from by simpa [Nat.blt_eq] using h']
      rfl
    · rw [dif_neg h', show Nat.blt n 10 = false from by simp only [Bool.eq_false_iff, ne_eq, Nat.blt_eq]; exact h']
      simp only [cond_false]
      rw [decD_eq k (n / 10) (by rw [Nat.pow_succ] at h; exact Nat.div_lt_of_lt_mul (by omega))]

section
variable [Sym]

theorem rItoa_ok (hg : Sym.gl 1 = some pow10A) : ASpecOk Tryz.prog 32 (pureR rItoa) := by
  refine pureR_ok Tryz.func32 rfl rfl fun vs v h ν w vs' g hl => ?_
  unfold rItoa at h
  split at h
  · rename_i n
    cases hn : Nat.blt n 100000 with
    | false => rw [hn] at h; cases h
    | true =>
      rw [hn] at h
      simp only [cond_true, Option.some.injEq] at h
      subst h
      have hn : n < 100000 := by simpa [Nat.blt_eq] using hn
      obtain ⟨x', e, hx⟩ := hl.one
      rw [hx.grd_inv rfl] at e
      rw [toArr e]
      obtain ⟨T, fr, hh⟩ := g 1 _ hg
      have htab : Lib.TabIs Tryz.prog w "internal/strconv.uint64pow10" .u64 Lib.pow10Tab := by
        unfold Lib.TabIs World.var?
        rw [pow10_at]
        simp only [Option.bind_some, hh, Option.some.injEq]
        simp [pow10A, Lib.pow10Tab]
      refine (Tryz.strconv_Itoa n (by omega) (by omega) w htab).mono fun x w' hx => ?_
      obtain ⟨rfl, k, os, rfl⟩ := hx
      refine ⟨_, rfl, ?_, ⟨fun b hb => ?_, ?_, rfl, rfl, rfl⟩⟩
      · have : Lib.itoa (n : Int) = decD 20 n := by
          unfold Lib.itoa
          rw [if_neg (by omega), decD_eq 19 n (by omega)]
          simp
        show VR ν (.string (bs (decD 20 n))) (.string (bs (Lib.itoa (n : Int))))
        rw [this]
        exact .grd _ rfl
      · exact Array.getElem?_append_left hb
      · show w.heap.size ≤ (w.heap ++ os).size
        simp
  · cases h

theorem base_ok (hg : Sym.gl 1 = some pow10A) (f : Nat) (g : ASpec) (h : sp0 f = some g) : ASpecOk Tryz.prog f g := by
  unfold sp0 at h
  split at h <;> first | (simp only [Option.some.injEq] at h; subst h) | cases h
  · exact rIndex_ok Tryz.func213 rfl rfl rfl rfl
  · exact rCount_ok Tryz.func152 rfl rfl rfl rfl
  · exact sLoad_ok Tryz.func177 rfl rfl rfl rfl
  · exact sStore_ok Tryz.func178 rfl rfl rfl rfl
  · exact rItoa_ok hg
theorem noh_ok : HintOk Tryz.prog noh := fun o vs v h => by cases h
theorem C0_ok (hg : Sym.gl 1 = some pow10A) : CallOkD Tryz.prog C0 := callQ_ok follows_mixed noNum_at (base_ok hg) noh_ok
theorem sp1_ok (hg : Sym.gl 1 = some pow10A) (f : Nat) (g : ASpec) (h : sp1 f = some g) : ASpecOk Tryz.prog f g := by
  unfold sp1 at h
  split at h <;> first | (simp only [Option.some.injEq] at h; subst h) | cases h
  · exact rIndex_ok Tryz.func213 rfl rfl rfl rfl
  · exact rCount_ok Tryz.func152 rfl rfl rfl rfl
  · exact sLoad_ok Tryz.func177 rfl rfl rfl rfl
  · exact sStore_ok Tryz.func178 rfl rfl rfl rfl
  · exact rItoa_ok hg
  · exact altS_ok (localF_ok (C0_ok hg) _ _ _ _) (altS_ok (localF_ok (C0_ok hg) _ _ _ _) (localF_ok (C0_ok hg) _ _ _ _))
  · exact localF_ok (C0_ok hg) _ _ _ _
theorem C1_ok (hg : Sym.gl 1 = some pow10A) : CallOkD Tryz.prog C1 := callQ_ok follows_mixed noNum_at (sp1_ok hg) noh_ok
theorem callB_ok : CallOkD Tryz.prog callB := callQ_ok follows_mixed noNum_at (fun f g h => by cases h) noh_ok

omit [Sym] in
theorem bres_spec {o : Option (Value × Hp)} (h : bres o = true) : ∃ hh, o = some (.bool true, hh) := by
  unfold bres at h
  split at h
  · rename_i b hh
    subst h
    exact ⟨hh, rfl⟩
  · cases h
omit [Sym] in
theorem runC_of {call : CallG} {f : Nat} {vs : List Value} {v : Value} {hh : Hp} (h : call f vs ⟨.emp, 0⟩ = some (v, hh)) : runC call f vs = some v := by
  unfold runC
  rw [h]

theorem rSpeaks_ok (hg : Sym.gl 1 = some pow10A) : ASpecOk Tryz.prog 5 (pureR rSpeaks) := by
  refine table_ok (C1_ok hg) 5 fun vs v h => ?_
  unfold rSpeaks at h
  split at h
  · simp only [Option.some.injEq] at h
    subst h
    refine ⟨rfl, rfl, .bool true, ?_, rfl, fun ν => .grd _ rfl⟩
    obtain ⟨hh, hb⟩ := bres_spec speaks_true
    exact runC_of hb
  · cases h
end

theorem strE_spec {v : Option Value} {l : List UInt8} (h : strE v l = true) : v = some (.string (bs l)) := by
  unfold strE at h
  split at h
  · rename_i s
    have := of_decide_eq_true h
    obtain ⟨d⟩ := s
    simp only at this
    rw [← this]
    rfl
  · cases h
theorem numE_spec {v : Option Value} {n : Int} {b : Bool} (h : numE v n b = true) : v = some (.tuple #[.int .i64 n, .bool b]) := by
  unfold numE at h
  split at h
  · rename_i vs
    split at h
    · rename_i k c hvs
      simp only [Bool.and_eq_true, decide_eq_true_eq, beq_iff_eq] at h
      have : vs = #[.int .i64 k, .bool c] := by apply Array.ext'; simpa using hvs
      rw [this, h.1, h.2]
    · cases h
  · cases h

theorem lay_pair {ν : Nat → Slot} [Sym] {a b c d : Value} (h1 : VR ν a c) (h2 : VR ν b d) : VR ν (.tuple #[a, b]) (.tuple #[c, d]) := by
  refine .tup _ _ rfl fun i v v' q1 q2 => ?_
  match i with
  | 0 => simp at q1 q2; subst q1; subst q2; exact h1
  | 1 => simp at q1 q2; subst q1; subst q2; exact h2
  | i + 2 => simp at q1

/-! ### Pieces of a line -/
def blank : ByteArray := ⟨#[32]⟩
theorem str_blank {p : Value} (h : isStr p [32] = true) : p = .string blank := isStr_spec h
theorem indexB_blank (l : List UInt8) : Lib.indexB (bs l) blank = Lib.indexByte l 32 := by
  rw [Lib.one (bs l) blank rfl]
  rfl
theorem idx_none : ∀ {l : List UInt8}, (∀ b ∈ l, b ≠ 32) → Lib.indexByte l 32 = -1
  | [], _ => rfl
  | b :: l, h => by
    have h1 : (b == 32) = false := by simpa using h b (by simp)
    have h2 := idx_none (l := l) fun c hc => h c (by simp [hc])
    unfold Lib.indexByte
    rw [h1, h2]
    rfl
theorem idx_some : ∀ {a b : List UInt8}, (∀ c ∈ a, c ≠ 32) → Lib.indexByte (a ++ 32 :: b) 32 = a.length
  | [], b, _ => rfl
  | x :: a, b, h => by
    have h1 : (x == 32) = false := by simpa using h x (by simp)
    have h2 := idx_some (a := a) (b := b) fun c hc => h c (by simp [hc])
    rw [List.cons_append]
    unfold Lib.indexByte
    rw [h1, h2]
    have h3 : ((a.length : Int) == -1) = false := by
      rw [beq_eq_false_iff_ne]; omega
    simp [h3]
def Pieces (l : List UInt8) (ls : List (List UInt8)) : Prop := Lib.countB (bs l) blank + 1 = ls.length ∧ Lib.splitB blank 0 (Lib.countB (bs l) blank) (bs l) = ls.map bs
theorem pieces_one {l : List UInt8} (h : ∀ b ∈ l, b ≠ 32) : Pieces l [l] := by
  have h1 : Lib.indexB (bs l) blank = -1 := by rw [indexB_blank, idx_none h]
  refine ⟨by rw [Lib.countB_miss _ _ h1]; rfl, ?_⟩
  rw [Lib.splitB_miss _ _ _ _ h1]
  rfl
theorem bs_ext {a : ByteArray} {l : List UInt8} (h : a.data.toList = l) : a = bs l := by
  obtain ⟨d⟩ := a
  simp only at h
  rw [← h]
  rfl
theorem pieces_cons {a b : List UInt8} {ls : List (List UInt8)} (h : ∀ c ∈ a, c ≠ 32) (hb : Pieces b ls) : Pieces (a ++ 32 :: b) (a :: ls) := by
  have h1 : Lib.indexB (bs (a ++ 32 :: b)) blank = (a.length : Nat) := by rw [indexB_blank, idx_some h]
  have e : (bs (a ++ 32 :: b)).extract (a.length + blank.size) (bs (a ++ 32 :: b)).size = bs b := by
    apply bs_ext
    rw [Lib.extract_to_end]
    show (a ++ 32 :: b).drop (a.length + 1) = b
    rw [List.drop_append]
    simp
  have h2 : Lib.countB (bs (a ++ 32 :: b)) blank = Lib.countB (bs b) blank + 1 := by
    rw [Lib.countB_hit _ _ _ (by decide) h1, e]; omega
  refine ⟨by rw [h2, hb.1]; rfl, ?_⟩
  rw [h2, Lib.splitB_hit _ _ _ _ _ h1, e, hb.2]
  have : (bs (a ++ 32 :: b)).extract 0 (a.length + 0) = bs a := by
    apply bs_ext
    rw [Lib.extract_from_zero]
    show (a ++ 32 :: b).take (a.length + 0) = a
    simp
  rw [this]
  rfl

section
variable (which n mx : Int) (s : ByteArray)

theorem rDigits_ok : letI := oddSym which n mx s; ASpecOk Tryz.prog 11 (pureR rDigits) := by
  letI inst : Sym := oddSym which n mx s
  refine table_ok callB_ok 11 fun vs v h => ?_
  unfold rDigits at h
  split at h
  · simp only [Option.some.injEq] at h
    subst h
    have h1 := okDig_all (mm n) (mm_lt n)
    exact ⟨rfl, rfl, _, strE_spec h1, rfl, fun ν => .sym 11⟩
  · cases h

theorem rNumber_ok : letI := oddSym which n mx s; ASpecOk Tryz.prog 30 (pureR rNumber) := by
  letI inst : Sym := oddSym which n mx s
  refine table_ok callB_ok 30 fun vs v h => ?_
  unfold rNumber at h
  split at h
  · split at h
    · simp only [Option.some.injEq] at h
      subst h
      have h1 := okNum0_all (mm n) (mm_lt n)
      exact ⟨rfl, rfl, _, numE_spec h1, rfl, fun ν => lay_pair (.grd _ rfl) (.grd _ rfl)⟩
    · simp only [Option.some.injEq] at h
      subst h
      have h1 := okNumM_all (mm n) (mm_lt n)
      exact ⟨rfl, rfl, _, numE_spec h1, rfl, fun ν => lay_pair (.grd _ rfl) (.grd _ rfl)⟩
    · simp only [Option.some.injEq] at h
      subst h
      have h1 := okNum_all (mm n) (mm_lt n)
      exact ⟨rfl, rfl, _, numE_spec h1, rfl, fun ν => lay_pair (.sym 40) (.grd _ rfl)⟩
    · cases h
  · cases h

theorem rWords_ok : letI := oddSym which n mx s; ASpecOk Tryz.prog 10 (rowR (rWords ((first30 s).data.toList.count 32))) := by
  letI inst : Sym := oddSym which n mx s
  refine rowR_ok Tryz.func10 rfl rfl fun vs len e cs T h ν w vs' g hl => ?_
  unfold rWords at h
  split at h
  · simp only [Option.some.injEq, Prod.mk.injEq] at h
    obtain ⟨rfl, rfl, rfl, rfl⟩ := h
    have e := hl.real rfl
    have e2 : vs' = #[.string (first30 s)] := by apply Array.ext'; rw [e]; rfl
    rw [e2]
    have hsz : (first30 s).size ≤ 30 := by unfold first30; rw [ByteArray.size_extract]; omega
    refine (words_any (first30 s) w hsz).mono fun x w' hx => ?_
    obtain ⟨v, k, xs, wd, rfl, ⟨ho1, ho2⟩, hat, hb⟩ := hx
    have hk : k = (first30 s).data.toList.count 32 := by
      rw [hat.count, List.take_of_length_le (by rw [← Lib.size_eq]; exact Nat.le_refl _)]
    rw [← hk]
    rcases ho2 with ⟨_, h0⟩ | ⟨gb, cap, cur, rfl, h1, h2, h3, _, h4, h5⟩
    · omega
    · refine ⟨gb, cap, cur, rfl, h1, h2, h3, by omega, by simp; omega, ?_, ⟨fun b hb' => hb.block b hb', hb.size, hb.os, hb.tape, hb.output⟩⟩
      intro i v hv
      match i with
      | 0 =>
        simp at hv
        subst hv
        refine ⟨.string (bs (fw s)), ?_, fun ν' => .sym 7⟩
        have h0 : (xs ++ [Value.string wd])[0]? = some (.string (bs (fw s))) := by
          by_cases hk0 : k = 0
          · obtain ⟨r1, r2⟩ := hat.none hk0
            rw [r1]
            simp only [List.nil_append, List.getElem?_cons_zero, Option.some.injEq, Value.string.injEq]
            apply bs_ext
            rw [r2, List.take_of_length_le (by rw [← Lib.size_eq]; exact Nat.le_refl _)]
            unfold fw
            rw [fstW_of_none (by rw [← hk]; exact hk0)]
          · have r := hat.some (by omega)
            rw [List.getElem?_append_left (List.getElem?_eq_some_iff.1 r).1]
            exact r
        rw [← h5, List.getElem?_take] at h0
        split at h0
        · simpa using h0
        · cases h0
      | i + 1 => simp at hv
  · cases h

theorem split_tok (k : Nat) (l : List Value) (h : splitT k = some l) : ∃ (t : List UInt8) (ls : List (List UInt8)), oddVal which n s k = .string (bs t) ∧ t.length ≤ 40 ∧ Pieces t ls ∧ l.length = ls.length ∧
    ∀ (i : Nat) (v : Value), l[i]? = some v → ∃ p, ls[i]? = some p ∧ ∀ ν', @VR (oddSym which n mx s) ν' v (.string (bs p)) := by
  letI inst : Sym := oddSym which n mx s
  have hd := dig_no (mm n) (mm_lt n)
  have hl := (dig_spec (mm n) (mm_lt n)).2.1
  have hw := fw_no s
  have hwl := fw_short s
  unfold splitT at h
  split at h <;> first | (simp only [Option.some.injEq] at h; subst h) | cases h
  · refine ⟨_, [[116, 105, 99, 107], 48 :: dig (mm n)], rfl, by simp; omega, pieces_cons (a := [116, 105, 99, 107]) (by decide) (pieces_one ?_), rfl, ?_⟩
    · intro b hb
      rcases List.mem_cons.1 hb with rfl | hb
      · decide
      · exact hd b hb
    · intro i v hv
      match i with
      | 0 => simp at hv; subst hv; exact ⟨_, rfl, fun ν' => .grd _ rfl⟩
      | 1 => simp at hv; subst hv; exact ⟨_, rfl, fun ν' => .sym 30⟩
      | i + 2 => simp at hv
  · refine ⟨_, [[116, 105, 99, 107], 45 :: dig (mm n)], rfl, by simp; omega, pieces_cons (a := [116, 105, 99, 107]) (by decide) (pieces_one ?_), rfl, ?_⟩
    · intro b hb
      rcases List.mem_cons.1 hb with rfl | hb
      · decide
      · exact hd b hb
    · intro i v hv
      match i with
      | 0 => simp at hv; subst hv; exact ⟨_, rfl, fun ν' => .grd _ rfl⟩
      | 1 => simp at hv; subst hv; exact ⟨_, rfl, fun ν' => .sym 31⟩
      | i + 2 => simp at hv
  · refine ⟨_, [[112, 105, 99, 107], dig (mm n)], rfl, by simp; omega, pieces_cons (a := [112, 105, 99, 107]) (by decide) (pieces_one hd), rfl, ?_⟩
    intro i v hv
    match i with
    | 0 => simp at hv; subst hv; exact ⟨_, rfl, fun ν' => .grd _ rfl⟩
    | 1 => simp at hv; subst hv; exact ⟨_, rfl, fun ν' => .sym 11⟩
    | i + 2 => simp at hv
  · refine ⟨_, [[112, 105, 99, 107], [57], dig (mm n)], rfl, by simp; omega, pieces_cons (a := [112, 105, 99, 107]) (by decide) (pieces_cons (a := [57]) (by decide) (pieces_one hd)), rfl, ?_⟩
    intro i v hv
    match i with
    | 0 => simp at hv; subst hv; exact ⟨_, rfl, fun ν' => .grd _ rfl⟩
    | 1 => simp at hv; subst hv; exact ⟨_, rfl, fun ν' => .grd _ rfl⟩
    | 2 => simp at hv; subst hv; exact ⟨_, rfl, fun ν' => .sym 11⟩
    | i + 3 => simp at hv
  · refine ⟨_, [[114, 101, 115, 116], fw s], rfl, by simp; omega, pieces_cons (a := [114, 101, 115, 116]) (by decide) (pieces_one hw), rfl, ?_⟩
    intro i v hv
    match i with
    | 0 => simp at hv; subst hv; exact ⟨_, rfl, fun ν' => .grd _ rfl⟩
    | 1 => simp at hv; subst hv; exact ⟨_, rfl, fun ν' => .sym 7⟩
    | i + 2 => simp at hv
  · refine ⟨_, [[111, 117, 116, 115], dig (mm n)], rfl, by simp; omega, pieces_cons (a := [111, 117, 116, 115]) (by decide) (pieces_one hd), rfl, ?_⟩
    intro i v hv
    match i with
    | 0 => simp at hv; subst hv; exact ⟨_, rfl, fun ν' => .grd _ rfl⟩
    | 1 => simp at hv; subst hv; exact ⟨_, rfl, fun ν' => .sym 11⟩
    | i + 2 => simp at hv
  · refine ⟨_, [fw s], rfl, by omega, pieces_one hw, rfl, ?_⟩
    intro i v hv
    match i with
    | 0 => simp at hv; subst hv; exact ⟨_, rfl, fun ν' => .sym 7⟩
    | i + 1 => simp at hv

theorem rSplit_ok : letI := oddSym which n mx s; ASpecOk Tryz.prog 25 (rowR rSplit) := by
  letI inst : Sym := oddSym which n mx s
  refine rowR_ok Tryz.func25 rfl rfl fun vs len e cs T h ν w vs' g hl => ?_
  unfold rSplit at h
  split at h
  · rename_i k p
    cases hp : isStr p [32] with
    | false => rw [hp] at h; cases h
    | true =>
      rw [hp] at h
      simp only [cond_true] at h
      split at h
      · rename_i l hl2
        simp only [Option.some.injEq, Prod.mk.injEq] at h
        obtain ⟨rfl, rfl, rfl, rfl⟩ := h
        rw [str_blank hp] at hl
        obtain ⟨t, ls, ht, hts, hpc, hll, hcs⟩ := split_tok which n mx s k l hl2
        have e := hl.real rfl
        have e2 : vs' = #[.string (bs t), .string blank] := by
          apply Array.ext'
          rw [e]
          show [oddVal which n s k, Value.string blank] = _
          rw [ht]
        rw [e2]
        obtain ⟨T0, fr0, hh⟩ := g 0 #[.int .i64 mx] rfl
        have hm : w.cell? ⟨0, 0, none⟩ = some (.int .i64 mx) := by rw [cell_of_row w 0 0 _ T0 fr0 hh]; rfl
        refine (Tryz.strings_Split (bs t) blank mx w (by rw [bs_size]; omega) hm (by decide)).mono fun x w' hx => ?_
        obtain ⟨rfl, rfl⟩ := hx
        rw [hpc.1, hpc.2, ← hll]
        refine ⟨_, _, _, rfl, Nat.le_refl _, by simp only [World.alloc]; rw [Array.getElem?_push_size], Nat.le_refl _, by simp [hll], by simp [hll], ?_, ⟨fun b hb => ?_, ?_, rfl, rfl, rfl⟩⟩
        · intro i v hv
          obtain ⟨q, h1, h2⟩ := hcs i v hv
          refine ⟨.string (bs q), ?_, h2⟩
          simp [h1]
        · simp only [World.alloc]
          rw [Array.getElem?_push, if_neg (by omega)]
        · show w.heap.size ≤ (w.heap.push _).size
          rw [Array.size_push]; omega
      · cases h
  · cases h

theorem tok_cut (k : Nat) (k1 : 20 ≤ k) (k2 : k ≤ 25) : ∃ t, oddVal which n s k = .string (bs t) ∧ List.isPrefixOf [112, 108, 97, 110, 32] t = false := by
  have : k = 20 ∨ k = 21 ∨ k = 22 ∨ k = 23 ∨ k = 24 ∨ k = 25 := by omega
  rcases this with rfl | rfl | rfl | rfl | rfl | rfl <;> exact ⟨_, rfl, rfl⟩

theorem rCut_ok : letI := oddSym which n mx s; ASpecOk Tryz.prog 13 (pureR rCut) := by
  letI inst : Sym := oddSym which n mx s
  refine pureR_ok Tryz.func13 rfl rfl fun vs v h ν w vs' g hl => ?_
  unfold rCut at h
  split at h
  · rename_i k p
    cases hp : isStr p [112, 108, 97, 110, 32] with
    | false => rw [hp] at h; cases h
    | true =>
      rw [hp] at h
      simp only [cond_true] at h
      rw [isStr_spec hp] at hl
      have e := hl.real rfl
      have key : ∀ (t : List UInt8), oddVal which n s k = .string (bs t) → vs' = #[.string (bs t), .string (bs [112, 108, 97, 110, 32])] := by
        intro t ht
        apply Array.ext'
        rw [e]
        show [oddVal which n s k, Value.string _] = _
        rw [ht]
      cases h26 : Nat.beq k 26 with
      | true =>
        rw [h26] at h
        simp only [cond_true, Option.some.injEq] at h
        subst h
        have := Nat.eq_of_beq_eq_true h26
        subst this
        rw [key ([112, 108, 97, 110, 32] ++ fw s) rfl]
        refine (Tryz.strings_CutPrefix _ _ w).mono fun x w' hx => ?_
        obtain ⟨rfl, rfl⟩ := hx
        refine ⟨_, rfl, ?_, Ext.refl _⟩
        have h1 : Lib.hasPrefix (bs ([112, 108, 97, 110, 32] ++ fw s)).data.toList (bs [112, 108, 97, 110, 32]).data.toList = true := by
          show List.isPrefixOf [112, 108, 97, 110, 32] ([112, 108, 97, 110, 32] ++ fw s) = true
          rw [List.isPrefixOf_iff_prefix]
          exact List.prefix_append _ _
        have h2 : Lib.trimPrefix (bs ([112, 108, 97, 110, 32] ++ fw s)).data.toList (bs [112, 108, 97, 110, 32]).data.toList = fw s := by
          unfold Lib.trimPrefix
          rw [if_pos h1]
          rfl
        rw [h1, h2]
        exact lay_pair (.sym 7) (.grd _ rfl)
      | false =>
        rw [h26] at h
        simp only [cond_false] at h
        cases hr : Nat.ble 20 k && Nat.ble k 25 with
        | false => rw [hr] at h; cases h
        | true =>
          rw [hr] at h
          simp only [cond_true, Option.some.injEq] at h
          subst h
          simp only [Bool.and_eq_true] at hr
          have k1 := Nat.le_of_ble_eq_true hr.1
          have k2 := Nat.le_of_ble_eq_true hr.2
          have := tok_cut which n s k k1 k2
          obtain ⟨t, ht, hpre⟩ := this
          rw [key t ht]
          refine (Tryz.strings_CutPrefix _ _ w).mono fun x w' hx => ?_
          obtain ⟨rfl, rfl⟩ := hx
          refine ⟨_, rfl, ?_, Ext.refl _⟩
          have h1 : Lib.hasPrefix (bs t).data.toList (bs [112, 108, 97, 110, 32]).data.toList = false := hpre
          have h2 : Lib.trimPrefix (bs t).data.toList (bs [112, 108, 97, 110, 32]).data.toList = t := by
            unfold Lib.trimPrefix
            rw [h1]
            rfl
          rw [h1, h2]
          refine lay_pair ?_ (.grd _ rfl)
          have hs : VR ν (tok k) (oddVal which n s k) := .sym k
          rw [ht] at hs
          exact hs
  · cases h

theorem spO_ok (f : Nat) (g : ASpec) (h : spO ((first30 s).data.toList.count 32) f = some g) : @ASpecOk (oddSym which n mx s) Tryz.prog f g := by
  letI inst : Sym := oddSym which n mx s
  unfold spO at h
  split at h <;> first | (simp only [Option.some.injEq] at h; subst h) | cases h
  · exact rIndex_ok Tryz.func213 rfl rfl rfl rfl
  · exact rCount_ok Tryz.func152 rfl rfl rfl rfl
  · exact sLoad_ok Tryz.func177 rfl rfl rfl rfl
  · exact sStore_ok Tryz.func178 rfl rfl rfl rfl
  · exact rItoa_ok rfl
  · exact rSpeaks_ok rfl
  · exact rWords_ok which n mx s
  · exact rDigits_ok which n mx s
  · exact rCut_ok which n mx s
  · exact rSplit_ok which n mx s
  · exact rNumber_ok which n mx s
end
end Go.Proofs
