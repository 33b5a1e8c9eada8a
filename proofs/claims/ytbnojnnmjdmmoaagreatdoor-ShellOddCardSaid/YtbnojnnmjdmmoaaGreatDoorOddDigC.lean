/- Digits of small numbers: runs. -/
import Derived.Test.YtbnojnnmjdmmoaaGreatDoorOddDig
namespace Go.Proofs
open Go.Ev
theorem okNum0_0 : (fromTo 0 100).all okNum0 = true := by kernel_rfl
theorem okNum0_100 : (fromTo 100 100).all okNum0 = true := by kernel_rfl
theorem okNum0_200 : (fromTo 200 100).all okNum0 = true := by kernel_rfl
theorem okNum0_300 : (fromTo 300 100).all okNum0 = true := by kernel_rfl
theorem okNum0_400 : (fromTo 400 100).all okNum0 = true := by kernel_rfl
theorem okNum0_500 : (fromTo 500 100).all okNum0 = true := by kernel_rfl
theorem okNum0_600 : (fromTo 600 100).all okNum0 = true := by kernel_rfl
theorem okNum0_700 : (fromTo 700 100).all okNum0 = true := by kernel_rfl
theorem okNum0_800 : (fromTo 800 100).all okNum0 = true := by kernel_rfl
theorem okNum0_900 : (fromTo 900 100).all okNum0 = true := by kernel_rfl
theorem okNum0_all (m : Nat) (h : m < 1000) : okNum0 m = true := by
  have key : ∀ a n, (fromTo a n).all okNum0 = true → a ≤ m → m < a + n → okNum0 m = true := by
    intro a n hx h1 h2
    refine List.all_eq_true.1 hx m ?_
    simp only [fromTo, List.mem_map, List.mem_range]
    exact ⟨m - a, by omega, by omega⟩
  by_cases c0 : m < 100
  · exact key 0 100 okNum0_0 (by omega) (by omega)
  by_cases c1 : m < 200
  · exact key 100 100 okNum0_100 (by omega) (by omega)
  by_cases c2 : m < 300
  · exact key 200 100 okNum0_200 (by omega) (by omega)
  by_cases c3 : m < 400
  · exact key 300 100 okNum0_300 (by omega) (by omega)
  by_cases c4 : m < 500
  · exact key 400 100 okNum0_400 (by omega) (by omega)
  by_cases c5 : m < 600
  · exact key 500 100 okNum0_500 (by omega) (by omega)
  by_cases c6 : m < 700
  · exact key 600 100 okNum0_600 (by omega) (by omega)
  by_cases c7 : m < 800
  · exact key 700 100 okNum0_700 (by omega) (by omega)
  by_cases c8 : m < 900
  · exact key 800 100 okNum0_800 (by omega) (by omega)
  by_cases c9 : m < 1000
  · exact key 900 100 okNum0_900 (by omega) (by omega)
  omega
theorem okNumM_0 : (fromTo 0 100).all okNumM = true := by kernel_rfl
theorem okNumM_100 : (fromTo 100 100).all okNumM = true := by kernel_rfl
theorem okNumM_200 : (fromTo 200 100).all okNumM = true := by kernel_rfl
theorem okNumM_300 : (fromTo 300 100).all okNumM = true := by kernel_rfl
theorem okNumM_400 : (fromTo 400 100).all okNumM = true := by kernel_rfl
theorem okNumM_500 : (fromTo 500 100).all okNumM = true := by kernel_rfl
theorem okNumM_600 : (fromTo 600 100).all okNumM = true := by kernel_rfl
theorem okNumM_700 : (fromTo 700 100).all okNumM = true := by kernel_rfl
theorem okNumM_800 : (fromTo 800 100).all okNumM = true := by kernel_rfl
theorem okNumM_900 : (fromTo 900 100).all okNumM = true := by kernel_rfl
theorem okNumM_all (m : Nat) (h : m < 1000) : okNumM m = true := by
  have key : ∀ a n, (fromTo a n).all okNumM = true → a ≤ m → m < a + n → okNumM m = true := by
    intro a n hx h1 h2
    refine List.all_eq_true.1 hx m ?_
    simp only [fromTo, List.mem_map, List.mem_range]
    exact ⟨m - a, by omega, by omega⟩
  by_cases c0 : m < 100
  · exact key 0 100 okNumM_0 (by omega) (by omega)
  by_cases c1 : m < 200
  · exact key 100 100 okNumM_100 (by omega) (by omega)
  by_cases c2 : m < 300
  · exact key 200 100 okNumM_200 (by omega) (by omega)
  by_cases c3 : m < 400
  · exact key 300 100 okNumM_300 (by omega) (by omega)
  by_cases c4 : m < 500
  · exact key 400 100 okNumM_400 (by omega) (by omega)
  by_cases c5 : m < 600
  · exact key 500 100 okNumM_500 (by omega) (by omega)
  by_cases c6 : m < 700
  · exact key 600 100 okNumM_600 (by omega) (by omega)
  by_cases c7 : m < 800
  · exact key 700 100 okNumM_700 (by omega) (by omega)
  by_cases c8 : m < 900
  · exact key 800 100 okNumM_800 (by omega) (by omega)
  by_cases c9 : m < 1000
  · exact key 900 100 okNumM_900 (by omega) (by omega)
  omega
end Go.Proofs
