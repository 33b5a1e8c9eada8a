/- Digits of small numbers: runs. -/
import Derived.Test.YtbnojnnmjdmmoaaGreatDoorOddDig
namespace Go.Proofs
open Go.Ev
theorem okDig_0 : (fromTo 0 50).all okDig = true := by kernel_rfl
theorem okDig_50 : (fromTo 50 50).all okDig = true := by kernel_rfl
theorem okDig_100 : (fromTo 100 50).all okDig = true := by kernel_rfl
theorem okDig_150 : (fromTo 150 50).all okDig = true := by kernel_rfl
theorem okDig_200 : (fromTo 200 50).all okDig = true := by kernel_rfl
theorem okDig_250 : (fromTo 250 50).all okDig = true := by kernel_rfl
theorem okDig_300 : (fromTo 300 50).all okDig = true := by kernel_rfl
theorem okDig_350 : (fromTo 350 50).all okDig = true := by kernel_rfl
theorem okDig_400 : (fromTo 400 50).all okDig = true := by kernel_rfl
theorem okDig_450 : (fromTo 450 50).all okDig = true := by kernel_rfl
theorem okDig_500 : (fromTo 500 50).all okDig = true := by kernel_rfl
theorem okDig_550 : (fromTo 550 50).all okDig = true := by kernel_rfl
theorem okDig_600 : (fromTo 600 50).all okDig = true := by kernel_rfl
theorem okDig_650 : (fromTo 650 50).all okDig = true := by kernel_rfl
theorem okDig_700 : (fromTo 700 50).all okDig = true := by kernel_rfl
theorem okDig_750 : (fromTo 750 50).all okDig = true := by kernel_rfl
theorem okDig_800 : (fromTo 800 50).all okDig = true := by kernel_rfl
theorem okDig_850 : (fromTo 850 50).all okDig = true := by kernel_rfl
theorem okDig_900 : (fromTo 900 50).all okDig = true := by kernel_rfl
theorem okDig_950 : (fromTo 950 50).all okDig = true := by kernel_rfl
theorem okDig_all (m : Nat) (h : m < 1000) : okDig m = true := by
  have key : ∀ a n, (fromTo a n).all okDig = true → a ≤ m → m < a + n → okDig m = true := by
    intro a n hx h1 h2
    refine List.all_eq_true.1 hx m ?_
    simp only [fromTo, List.mem_map, List.mem_range]
    exact ⟨m - a, by omega, by omega⟩
  by_cases c0 : m < 50
  · exact key 0 50 okDig_0 (by omega) (by omega)
  by_cases c1 : m < 100
  · exact key 50 50 okDig_50 (by omega) (by omega)
  by_cases c2 : m < 150
  · exact key 100 50 okDig_100 (by omega) (by omega)
  by_cases c3 : m < 200
  · exact key 150 50 okDig_150 (by omega) (by omega)
  by_cases c4 : m < 250
  · exact key 200 50 okDig_200 (by omega) (by omega)
  by_cases c5 : m < 300
  · exact key 250 50 okDig_250 (by omega) (by omega)
  by_cases c6 : m < 350
  · exact key 300 50 okDig_300 (by omega) (by omega)
  by_cases c7 : m < 400
  · exact key 350 50 okDig_350 (by omega) (by omega)
  by_cases c8 : m < 450
  · exact key 400 50 okDig_400 (by omega) (by omega)
  by_cases c9 : m < 500
  · exact key 450 50 okDig_450 (by omega) (by omega)
  by_cases c10 : m < 550
  · exact key 500 50 okDig_500 (by omega) (by omega)
  by_cases c11 : m < 600
  · exact key 550 50 okDig_550 (by omega) (by omega)
  by_cases c12 : m < 650
  · exact key 600 50 okDig_600 (by omega) (by omega)
  by_cases c13 : m < 700
  · exact key 650 50 okDig_650 (by omega) (by omega)
  by_cases c14 : m < 750
  · exact key 700 50 okDig_700 (by omega) (by omega)
  by_cases c15 : m < 800
  · exact key 750 50 okDig_750 (by omega) (by omega)
  by_cases c16 : m < 850
  · exact key 800 50 okDig_800 (by omega) (by omega)
  by_cases c17 : m < 900
  · exact key 850 50 okDig_850 (by omega) (by omega)
  by_cases c18 : m < 950
  · exact key 900 50 okDig_900 (by omega) (by omega)
  by_cases c19 : m < 1000
  · exact key 950 50 okDig_950 (by omega) (by omega)
  omega
end Go.Proofs
