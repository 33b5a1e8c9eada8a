/- Words of a line: how many, and which is the first. -/
import Derived.Test.YtbnojnnmjdmmoaaGreatDoorChecked
import Derived.WalkKit
import Derived.Laws.Strings2
namespace Go.Proofs
open Go.RowKit

def fstW (l : List UInt8) : List UInt8 := l.takeWhile (fun b => b != 32)

/-- Behind k bytes. -/
structure AtK (s : ByteArray) (k n : Nat) (xs : List Value) (wd : ByteArray) : Prop where
  small : wd.size ≤ k
  count : n = (s.data.toList.take k).count 32
  none : n = 0 → xs = [] ∧ wd.data.toList = s.data.toList.take k
  some : 1 ≤ n → xs[0]? = some (.string ⟨(fstW s.data.toList).toArray⟩)

theorem fstW_of_none {l : List UInt8} (h : l.count 32 = 0) : fstW l = l := by
  unfold fstW
  induction l with
  | nil => rfl
  | cons b l ih =>
    have h1 : b ≠ 32 := fun e => by subst e; simp at h
    have h2 : (b != 32) = true := by simpa using h1
    have h3 : l.count 32 = 0 := by rw [List.count_cons] at h; omega
    simp [h2, ih h3]

theorem take_succ' {s : ByteArray} {k : Nat} (hk : k < s.size) : s.data.toList.take (k + 1) = s.data.toList.take k ++ [s[k]] := by
  have : k < s.data.toList.length := by simpa using hk
  rw [List.take_succ_eq_append_getElem this]
  rfl

theorem fstW_at {l : List UInt8} {k : Nat} (hc : (l.take k).count 32 = 0) (hk : l[k]? = some 32) : fstW l = l.take k := by
  unfold fstW
  have e : l = l.take k ++ l.drop k := (List.take_append_drop k l).symm
  have hd : l.drop k = 32 :: l.drop (k + 1) := by
    have hlt : k < l.length := (List.getElem?_eq_some_iff.1 hk).1
    rw [List.drop_eq_getElem_cons hlt]
    have := List.getElem?_eq_some_iff.1 hk
    rw [this.2]
  conv => lhs; rw [e, hd]
  rw [List.takeWhile_append_of_pos]
  · simp
  · intro b hb
    have : b ≠ 32 := fun e => by
      subst e
      exact (List.count_eq_zero.1 hc) hb
    simpa using this

theorem at_blank {s : ByteArray} {k n : Nat} {xs : List Value} {wd : ByteArray} (h : AtK s k n xs wd) (hk : k < s.size) (hb : s[k] = 32) : AtK s (k + 1) (n + 1) (xs ++ [.string wd]) .empty := by
  refine ⟨by simp, ?_, by omega, fun _ => ?_⟩
  · rw [take_succ' hk, List.count_append, ← h.count, hb]
    simp
  · by_cases hn : n = 0
    · obtain ⟨h1, h2⟩ := h.none hn
      subst h1
      simp only [List.nil_append, List.getElem?_cons_zero]
      have : fstW s.data.toList = wd.data.toList := by
        rw [h2]
        refine fstW_at (by rw [← h.count]; exact hn) ?_
        rw [List.getElem?_eq_getElem (by simpa using hk)]
        exact congrArg Option.some hb
      rw [this]
    · have h1 := h.some (by omega)
      rw [List.getElem?_append_left]
      · exact h1
      · exact (List.getElem?_eq_some_iff.1 h1).1

theorem at_other {s : ByteArray} {k n : Nat} {xs : List Value} {wd wd' : ByteArray} (h : AtK s k n xs wd) (hk : k < s.size) (hb : s[k] ≠ 32) (hw : wd'.data.toList = wd.data.toList ++ [s[k]]) : AtK s (k + 1) n xs wd' := by
  refine ⟨?_, ?_, fun hn => ?_, h.some⟩
  · have := congrArg List.length hw
    rw [List.length_append, List.length_singleton] at this
    have h2 := h.small
    simp only [ByteArray.size] at h2 ⊢
    simp only [Array.size] at h2 ⊢
    omega
  · rw [take_succ' hk, List.count_append, ← h.count]
    simp [hb]
  · obtain ⟨h1, h2⟩ := h.none hn
    exact ⟨h1, by rw [hw, h2, take_succ' hk]⟩

theorem ext_one {s wd : ByteArray} {k : Nat} (hk : k < s.size) : (wd ++ s.extract k (k + 1)).data.toList = wd.data.toList ++ [s[k]] := by
  have hk' : k < s.data.toList.length := by simpa using hk
  have e : (s.extract k (k + 1)).data.toList = [s[k]] := by
    rw [ByteArray.data_extract, Array.toList_extract, List.extract_eq_take_drop]
    have : k + 1 - k = 1 := by omega
    rw [this, List.drop_eq_getElem_cons hk']
    rfl
  rw [ByteArray.data_append, Array.toList_append, e]

theorem not32 {b : UInt8} (hb : b ≠ 32) : ¬ (b.toNat : Int) = 32 := by
  intro e
  apply hb
  apply UInt8.toNat_inj.1
  have e2 : b.toNat = 32 := by omega
  rw [e2]
  rfl

theorem Tryz.info9 : (Tryz.prog.info? 9).map (fun i => (i.zero, i.size, i.bytes)) = some (some (.string .empty), 1, 16) := by kernel_rfl

set_option maxHeartbeats 1600000 in
set_option maxRecDepth 1000000 in
theorem words_any (s : ByteArray) (w : World) (hs : s.size ≤ 30) :
    Calls Tryz.prog 10 #[.string s] w fun e w' => ∃ v n xs wd, e = .returned v ∧ w'.ownsRow w.heap.size 9 1 v (n + 1) (xs ++ [.string wd]) ∧ AtK s s.size n xs wd ∧ Below w.heap.size w w' := by
  obtain ⟨i0, hi, hz0, hz1, hz2⟩ := info_parts Tryz.info9
  go_enter Tryz.func10, Tryz.ntmps10
  go_wp2
  go_loopw [3, 4, 5] (fun out word i wr => ∃ (k n : Nat) (xs : List Value) (wd : ByteArray), k ≤ s.size ∧ i = .int .i64 k ∧ word = .string wd ∧ wr.ownsRow w.heap.size 9 1 out n xs ∧ n ≤ k ∧ AtK s k n xs wd ∧ Below w.heap.size w wr)
    (fun _ _ i _ => s.size - (intOf i).toNat)
  case atStart =>
    refine ⟨0, 0, [], .empty, Nat.zero_le _, rfl, rfl, ⟨rfl, .inl ⟨rfl, rfl⟩⟩, Nat.le_refl _, ⟨Nat.le_refl _, rfl, fun _ => ⟨rfl, rfl⟩, fun h => by omega⟩, Below.refl _ w⟩
  case round =>
    obtain ⟨k, n, xs, wd, hk, rfl, rfl, hown, hnk, hat, hnx⟩ := hrel
    by_cases hkl : k < s.size
    · by_cases hb : s[k] = 32
      · have h32 : s[k].toNat = 32 := by rw [hb]; rfl
        go_wp2_with (at_builtin; refine wpList_append_own _ rfl _ _ 26 rfl w.heap.size 9 i0 (.string .empty) 1 16 Tryz.underlying26 hi hz0 hz1 hz2 rfl (by decide) _ _ _ rfl (hown.alloc _) ⟨wr.heap.size, 0, none⟩ 1 1 [.string wd] rfl rfl ?c1 ?c2 ?c3 ?c4 ?c5 ?_)
        case c1 =>
          intro j u hj
          match j, hj with
          | 0, hj => simp at hj; subst hj; simp [Addr.add]
        case c2 => intro u hu; simp at hu; subst hu; rfl
        case c3 => unfold maxLen; omega
        case c4 => omega
        case c5 => have := hnx.size; simp; omega
        intro v' w2 hown' hgrow' hnn
        have hbel : Below w.heap.size w w2 := (hnx.alloc (by have := hnx.size; omega) _).grown hgrow' (by have := hnx.size; simp; omega) (fun j hj => by
          obtain ⟨_, h | ⟨g, cap, cur, rfl, h2, _⟩⟩ := hown
          · rw [h.1] at hj; cases hj
          · simp [Value.ownBlock] at hj; omega)
        go_wp2
        go_roundw
        case rel => exact ⟨k + 1, n + 1, xs ++ [.string wd], .empty, by omega, by simp, rfl, hown', by omega, at_blank hat hkl hb, hbel⟩
        case measure => simp [intOf]; omega
      · have h32 : ¬ (s[k].toNat : Int) = 32 := not32 hb
        have hwd := hat.small
        have hk1 : (k : Int) + 1 ≤ (s.size : Int) := by omega
        have hk0 : (k : Int) ≤ (k : Int) + 1 := by omega
        go_wp2
        refine ⟨⟨k + 1, n, xs, wd ++ s.extract k (k + 1), by omega, by simp, rfl, hown, by omega, at_other hat hkl hb (ext_one hkl), hnx⟩, ?_⟩
        simp [intOf]; omega
    · have hke : k = s.size := by omega
      subst hke
      go_wp2_with (at_builtin; refine wpList_append_own _ rfl _ _ 26 rfl w.heap.size 9 i0 (.string .empty) 1 16 Tryz.underlying26 hi hz0 hz1 hz2 rfl (by decide) _ _ _ rfl (hown.alloc _) ⟨wr.heap.size, 0, none⟩ 1 1 [.string wd] rfl rfl ?c1 ?c2 ?c3 ?c4 ?c5 ?_)
      case c1 =>
        intro j u hj
        match j, hj with
        | 0, hj => simp at hj; subst hj; simp [Addr.add]
      case c2 => intro u hu; simp at hu; subst hu; rfl
      case c3 => unfold maxLen; omega
      case c4 => omega
      case c5 => have := hnx.size; simp; omega
      intro v' w2 hown' hgrow' hnn
      have hbel : Below w.heap.size w w2 := (hnx.alloc (by have := hnx.size; omega) _).grown hgrow' (by have := hnx.size; simp; omega) (fun j hj => by
        obtain ⟨_, h | ⟨g, cap, cur, rfl, h2, _⟩⟩ := hown
        · rw [h.1] at hj; cases hj
        · simp [Value.ownBlock] at hj; omega)
      go_wp2
      go_ret
      exact ⟨v', n, xs, wd, rfl, hown', hat, hbel⟩
end Go.Proofs
