/- ShellOdd: whatever words that are none are said, the shell tells so, and changes nothing: THE ROW AND THE TIED CARD. -/
import Derived.Test.YtbnojnnmjdmmoaaGreatDoorOddSpec
import Derived.Test.YtbnojnnmjdmmoaaGreatDoorOddRunA
import Derived.Test.YtbnojnnmjdmmoaaGreatDoorOddRunB
import Derived.Test.YtbnojnnmjdmmoaaGreatDoorOddRunC
import Derived.Test.YtbnojnnmjdmmoaaGreatDoorOddRunD
import Derived.Test.YtbnojnnmjdmmoaaGreatDoorOddWit
import Derived.Test.YtbnojnnmjdmmoaaGreatDoorCards
import Derived.Test.YtbnojnnmjdmmoaaGreatDoorTie
import Derived.Conc.HoldsTime
import Derived.Handed
import Derived.Leaving
import Derived.Lay
import Derived.LaidMore
import Derived.OpenShut
import Derived.Lib.LaidTab
import Derived.Stop.LaidErr
import Derived.MakeChecks
import Derived.SevenTiedAt
import Derived.ChangeMaps5
namespace Go.Proofs.YtbnojnnmjdmmoaaGreatDoor
open Go.ChangeShapes Go.ChangeMaps Go.WideShapes Go.ChangeAt Go.RowKit Go.Ev Go.Conc Go.ConcM


theorem run_true (m k : Nat) (hk : k < 17) : bres (CO m k 3 [tok 1, tok 2, tok 3] ⟨.emp, 0⟩) = true := by
  match k, hk with
  | 0, _ => exact run0 m
  | 1, _ => exact run1 m
  | 2, _ => exact run2 m
  | 3, _ => exact run3 m
  | 4, _ => exact run4 m
  | 5, _ => exact run5 m
  | 6, _ => exact run6 m
  | 7, _ => exact run7 m
  | 8, _ => exact run8 m
  | 9, _ => exact run9 m
  | 10, _ => exact run10 m
  | 11, _ => exact run11 m
  | 12, _ => exact run12 m
  | 13, _ => exact run13 m
  | 14, _ => exact run14 m
  | 15, _ => exact run15 m
  | 16, _ => exact run16 m
  | k + 17, hk => omega

set_option maxRecDepth 100000 in
/-- The walk: the call answers true, and leaves all that was as it was. -/
theorem odd_calls (W : World) (which n mx : Int) (s : ByteArray) (h0 : ∃ T fr, W.heap[0]? = some (.cells #[.int .i64 mx] T fr)) (h1 : ∃ T fr, W.heap[1]? = some (.cells pow10A T fr)) :
    Calls Tryz.prog 3 #[.int .i64 which, .int .i64 n, .string s] W fun e W' => e = .returned (.bool true) ∧ Below W.heap.size W W' := by
  letI inst : Sym := oddSym which n mx s
  obtain ⟨k, hk⟩ : ∃ k : Nat, (num8 which).tmod 17 = k := ⟨((num8 which).tmod 17).toNat, by
    have := Int.tmod_nonneg (a := num8 which) 17 (u64_range which)
    omega⟩
  have hk17 : k < 17 := by
    have := Int.tmod_lt_of_pos (num8 which) (b := 17) (by omega)
    omega
  obtain ⟨hh, hrun⟩ := bres_spec (run_true ((first30 s).data.toList.count 32) k hk17)
  unfold CO at hrun
  rw [callQ_eq] at hrun
  have hnone : ∀ i, ¬ (⟨.emp, 0⟩ : Hp).has i := fun i hi => by simp [Hp.has, Hp.get, Tr.get_emp] at hi
  have s0 : Sat (fun _ => .un) (⟨.emp, 0⟩ : Hp) W := ⟨fun i cs E ro b z hg hi => by simp [Hp.get, Tr.get_emp] at hg, fun i j b z z' hi => by simp at hi, fun i b z hi => by simp at hi, fun i hi => (hnone i hi).elim, fun i _ => by simp [Hp.get, Tr.get_emp]⟩
  have g0 : Gl (fun _ => .un) (⟨.emp, 0⟩ : Hp) W := fun g d hd => by
    refine ⟨?_, fun i z hi => (hnone i hi).elim⟩
    match g, hd with
    | 0, hd =>
      have : d = #[.int .i64 mx] := (Option.some.inj hd).symm
      rw [this]; exact h0
    | 1, hd =>
      have : d = pow10A := (Option.some.inj hd).symm
      rw [this]; exact h1
    | g + 2, hd => cases hd
  have hl0 : LR (fun _ => .un) [tok 1, tok 2, tok 3] (#[Value.int .i64 which, .int .i64 n, .string s] : Array Value).toList := LR.cons (.sym 1) (LR.cons (.sym 2) (LR.cons (.sym 3) LR.nil))
  refine (callN_calls (lf := 1000) (d := 59) follows_mixed (TTof_ok _) (fun f fn h => ⟨h, noNum_at f fn h⟩) (spO_ok which n mx s) (hintO_ok which n mx s hk) rfl Tryz.func3 rfl hrun s0 g0 hl0 (fun i _ _ => rfl)).mono fun e W' he => ?_
  obtain ⟨v', ν', rfl, hv, _, p⟩ := he
  rw [hv.grd_inv rfl]
  exact ⟨rfl, p.os, p.tape, p.output, p.size, fun b hb => p.frame b hb fun i z hi => (hnone i hi).elim⟩

/-! ### What the row's condition gives -/
theorem ty1 : (Tryz.prog.globals[1]?).map (·.type) = some 317 := by kernel_rfl
set_option maxRecDepth 100000 in
theorem pow10_of {W : World} (h : laidMetH Tryz.prog Rows.shellOddRow.laid W) : ∃ T fr, W.heap[1]? = some (.cells pow10A T fr) := by
  rw [MakeChecks.laidMetH_plain _ _ _ (by kernel_rfl)] at h
  have h3 : laidMet Tryz.prog (("internal/strconv.uint64pow10", Lib.tabData .u64 Lib.pow10Tab) :: [("unicode/utf8.acceptRanges", Rows.laid_unicode_utf8_acceptRanges), ("unicode/utf8.first", Rows.laid_unicode_utf8_first)]) W := h.tail.tail
  have ht := Lib.tabIs_of_head pow10_at ty1 Tryz.underlying317 Tryz.underlying34 (by kernel_rfl) (by kernel_rfl) h3
  unfold Lib.TabIs World.var? at ht
  rw [pow10_at] at ht
  simp only [Option.bind_some] at ht
  split at ht
  · rename_i cs T fr hb
    refine ⟨T, fr, ?_⟩
    rw [hb]
    have : cs = pow10A := by rw [Option.some.inj ht]; simp [pow10A, Lib.pow10Tab]
    rw [this]
  · cases ht

set_option maxRecDepth 100000 in
theorem lifted (os : Os) (started : os.Started) (H : Type) (enc : TypeId × Value → H) (F : Stop.Interp) :
    ReturnsInLeavingWide Rows.shellOddRow.assume Tryz.checked os 3 .any (Rows.shellOddRow.pre enc Tryz.prog Tryz.f3 (OpenSpec.ofChange Rows.shellOddSpec)) ((OpenSpec.ofChange Rows.shellOddSpec).postWith enc Tryz.prog Tryz.f3 F (outsideKept [.timePasses]) false true false) := by
  intro enter
  have h := returnsInHanded_of_calls (C := Tryz.checked) (a := Rows.shellOddRow.assume) (f := 3) (r := .any) (Pre := Rows.shellOddRow.pre enc Tryz.prog Tryz.f3 (OpenSpec.ofChange Rows.shellOddSpec))
    (Post := (OpenSpec.ofChange Rows.shellOddSpec).postWith enc Tryz.prog Tryz.f3 F (outsideKept [.timePasses]) false true false) own started (by kernel_rfl) (witness os H enc) ?_ enter
  · exact ReturnsInOpen.mono (fun last w t x => ⟨x.2.1, onlyLeaving_of_quiet x.1, x.2.2⟩) (fun _ x => x) h
  · intro w tape i _ hshape _ hok hpre _
    obtain ⟨_, _, _, fn', hfn', _, _, _, _, hval0⟩ := hok
    have e : fn' = Tryz.f3 := Option.some.inj (hfn'.symm.trans Tryz.func3)
    subst e
    obtain ⟨⟨⟨ds, gs, before, hw, _⟩, hL0⟩, _⟩ := hpre
    have hL : laidMetH Tryz.prog Rows.shellOddRow.laid (w.forCall tape i) := laidMetH.of_heap (by rfl) hL0
    have hW := DataW.Whole.of_heap (w' := w.forCall tape i) (by rfl) hw
    generalize hWe : w.forCall tape i = W at *
    generalize hae : i.args = args at *
    have hval : ∀ (j : Nat) t v, Tryz.f3.params[j]? = some t → args[j]? = some v → Value.okWide Tryz.prog W .any w.heap.size t v := hval0
    have hW' := hW
    obtain ⟨p, q, hA0, hV, rfl, _, _⟩ := hW
    have hA : DataW.TrodAll enc Tryz.prog W 0 (fun _ => true) true Tryz.f3.params.toList args.toList ds p := hA0
    rw [Tryz.params3] at hA hval
    obtain ⟨v0, v1, v2, d0, d1, d2, p0, p1, p2, rfl, rfl, rfl, h0, h1, h2⟩ := trodAll_three hA
    obtain ⟨rfl, rfl⟩ := trodVars_none hV
    obtain ⟨a, rfl, rfl, rfl, wa⟩ := open_int Tryz.underlying3 (hval 0 3 v0 rfl rfl) h0
    obtain ⟨b, rfl, rfl, rfl, wb⟩ := open_int Tryz.underlying3 (hval 1 3 v1 rfl rfl) h1
    obtain ⟨s, rfl, rfl, rfl, ws⟩ := open_string Tryz.underlying9 (hval 2 9 v2 rfl rfl) h2
    clear hA0 hval0
    simp only [List.append_nil] at hW'
    obtain ⟨mx, hm0⟩ := Tryz.laysM146.s1_3 W hshape
    have hm : W.cell? ⟨0, 0, none⟩ = some (.int .i64 mx) := hm0
    have hb0 : ∃ T fr, W.heap[0]? = some (.cells #[.int .i64 mx] T fr) := by
      obtain ⟨cs, hc1, hc2, _⟩ := hshape.1 0 #[.int .i64 0] 3 (of_decide_eq_true (by kernel_rfl)) (by kernel_rfl)
      refine ⟨3, (0, 0), ?_⟩
      rw [hc1]
      have hm2 : W.cell? ⟨0, 0, none⟩ = cs[0]? := cell_of_row W 0 0 cs 3 (0, 0) hc1
      rw [hm] at hm2
      have : cs = #[.int .i64 mx] := by
        apply Array.ext
        · exact hc2
        · intro j q1 q2
          have : j = 0 := by simp at q2; omega
          subst this
          rw [Array.getElem?_eq_getElem q1] at hm2
          simp at hm2 ⊢
          exact hm2.symm
      rw [this]
    refine (odd_calls W a b mx s hb0 (pow10_of hL)).mono fun x W' hx => ?_
    obtain ⟨rfl, hbel⟩ := hx
    refine postWith_blind (postWith_of_post (s := Rows.shellOddSpec) ?_ (by rw [hbel.os]; exact OsLater.refl _))
    have hbel' : Below W.heap.size W { W' with os := W.os } := ⟨rfl, hbel.tape, hbel.output, hbel.size, hbel.block⟩
    exact ⟨_, _, _, [], [], [], hW', trodAll_mk1 (shut_bool Tryz.underlying4 _), trodAll_mk3 (shut_int Tryz.underlying3 wa) (shut_int Tryz.underlying3 wb) (shut_string Tryz.underlying9 ws), rfl, hbel'.frame _, fun h => by cases h⟩

theorem shellOdd_holds : Rows.ShellOddSaid :=
  OpenClaim.holds_of_wide_leaving_time 3 Tryz.f3 rfl rfl rfl rfl rfl rfl rfl ⟨rfl, rfl, rfl, rfl, rfl⟩ rfl rfl rfl rfl rfl named_ok Tryz.func3 closed_ok'
    inst_ok wrap_ok
    (fun os started H enc _ F => lifted os started H enc F)
end Go.Proofs.YtbnojnnmjdmmoaaGreatDoor
