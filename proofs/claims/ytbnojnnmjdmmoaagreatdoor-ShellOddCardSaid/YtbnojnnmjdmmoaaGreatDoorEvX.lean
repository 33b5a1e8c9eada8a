/- The tables, read off the program. -/
import Derived.Test.YtbnojnnmjdmmoaaGreatDoorEvW
namespace Go.Ev

/-- What is known of types. -/
def TTof (P : Program) : TT := fun t =>
  match P.underlying t, P.info? t with
  | some d, some i => match i.zero with
    | some z => some ⟨d, i.size, i.bytes, z, match d with
      | .struct fs => bif !(P.eqGuardType P.depth t) && !(P.stoodInHeld t) then some ((fs.toList.filter fun f => decide (f.name ≠ "_")).map fun f => (f.offset, f.type)) else none
      | _ => none⟩
    | none => none
  | _, _ => none

theorem TTof_ok (P : Program) : TTok (TTof P) P := by
  have key : ∀ t i, TTof P t = some i → P.underlying t = some i.desc ∧ (∃ j, P.info? t = some j ∧ j.size = i.size ∧ j.bytes = i.bytes ∧ j.zero = some i.zero) ∧
      i.eqf = (match i.desc with
        | .struct fs => bif !(P.eqGuardType P.depth t) && !(P.stoodInHeld t) then some ((fs.toList.filter fun f => decide (f.name ≠ "_")).map fun f => (f.offset, f.type)) else none
        | _ => none) := by
    intro t i h
    unfold TTof at h
    split at h
    · rename_i d j hd hj
      split at h
      · rename_i z hz
        simp only [Option.some.injEq] at h
        subst h
        exact ⟨hd, ⟨j, hj, rfl, rfl, hz⟩, rfl⟩
      · cases h
    · cases h
  refine ⟨fun t i h => (key t i h).1, fun t i h => (key t i h).2.1, fun t i l h hl => ?_⟩
  have h3 := (key t i h).2.2
  rw [hl] at h3
  split at h3
  · rename_i fs hfs
    cases hz : (!(P.eqGuardType P.depth t) && !(P.stoodInHeld t)) with
    | false => rw [hz] at h3; cases h3
    | true =>
      rw [hz] at h3
      simp only [cond_true, Option.some.injEq] at h3
      simp only [Bool.and_eq_true, Bool.not_eq_true'] at hz
      exact ⟨fs, hfs, h3.symm, hz.1, hz.2⟩
  · cases h3

/-- Functions of the program. -/
def callP (P : Program) (sp : Nat → Option ASpec) (hint : Hint) (lf d : Nat) : CallG := (callN (TTof P) (fun f => P.funcs[f]?) sp hint lf d).fn
end Go.Ev
