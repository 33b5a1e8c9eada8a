/- Digits of small numbers: runs. -/
import Derived.Test.YtbnojnnmjdmmoaaGreatDoorOddDig
namespace Go.Proofs
open Go.Ev
theorem okNum_0 : (fromTo 0 50).all okNum = true := by kernel_rfl
theorem okNum_50 : (fromTo 50 50).all okNum = true := by kernel_rfl
theorem okNum_100 : (fromTo 100 50).all okNum = true := by kernel_rfl
theorem okNum_150 : (fromTo 150 50).all okNum = true := by kernel_rfl
theorem okNum_200 : (fromTo 200 50).all okNum = true := by kernel_rfl
theorem okNum_250 : (fromTo 250 50).all okNum = true := by kernel_rfl
theorem okNum_300 : (fromTo 300 50).all okNum = true := by kernel_rfl
theorem okNum_350 : (fromTo 350 50).all okNum = true := by kernel_rfl
theorem okNum_400 : (fromTo 400 50).all okNum = true := by kernel_rfl
theorem okNum_450 : (fromTo 450 50).all okNum = true := by kernel_rfl
theorem okNum_500 : (fromTo 500 50).all okNum = true := by kernel_rfl
theorem okNum_550 : (fromTo 550 50).all okNum = true := by kernel_rfl
theorem okNum_600 : (fromTo 600 50).all okNum = true := by kernel_rfl
theorem okNum_650 : (fromTo 650 50).all okNum = true := by kernel_rfl
theorem okNum_700 : (fromTo 700 50).all okNum = true := by kernel_rfl
theorem okNum_750 : (fromTo 750 50).all okNum = true := by kernel_rfl
theorem okNum_800 : (fromTo 800 50).all okNum = true := by kernel_rfl
theorem okNum_850 : (fromTo 850 50).all okNum = true := by kernel_rfl
theorem okNum_900 : (fromTo 900 50).all okNum = true := by kernel_rfl
theorem okNum_950 : (fromTo 950 50).all okNum = true := by kernel_rfl
theorem okNum_all (m : Nat) (h : m < 1000) : okNum m = true := by
  have key : ∀ a n, (fromTo a n).all okNum = true → a ≤ m → m < a + n → okNum m = true := by
    intro a n hx h1 h2
    refine List.all_eq_true.1 hx m ?_
    simp only [fromTo, List.mem_map, List.mem_range]
    exact ⟨m - a, by omega, by omega⟩
  by_cases c0 : m < 50
  · exact key 0 50 okNum_0 (by omega) (by omega)
  by_cases c1 : m < 100
  · exact key 50 50 okNum_50 (by omega) (by omega)
  by_cases c2 : m < 150
  · exact key 100 50 okNum_100 (by omega) (by omega)
  by_cases c3 : m < 200
  · exact key 150 50 okNum_150 (by omega) (by omega)
  by_cases c4 : m < 250
  · exact key 200 50 okNum_200 (by omega) (by omega)
  by_cases c5 : m < 300
  · exact key 250 50 okNum_250 (by omega) (by omega)
  by_cases c6 : m < 350
  · exact key 300 50 okNum_300 (by omega) (by omega)
  by_cases c7 : m < 400
  · exact key 350 50 okNum_350 (by omega) (by omega)
  by_cases c8 : m < 450
  · exact key 400 50 okNum_400 (by omega) (by omega)
  by_cases c9 : m < 500
  · exact key 450 50 okNum_450 (by omega) (by omega)
  by_cases c10 : m < 550
  · exact key 500 50 okNum_500 (by omega) (by omega)
  by_cases c11 : m < 600
  · exact key 550 50 okNum_550 (by omega) (by omega)
  by_cases c12 : m < 650
  · exact key 600 50 okNum_600 (by omega) (by omega)
  by_cases c13 : m < 700
  · exact key 650 50 okNum_650 (by omega) (by omega)
  by_cases c14 : m < 750
  · exact key 700 50 okNum_700 (by omega) (by omega)
  by_cases c15 : m < 800
  · exact key 750 50 okNum_750 (by omega) (by omega)
  by_cases c16 : m < 850
  · exact key 800 50 okNum_800 (by omega) (by omega)
  by_cases c17 : m < 900
  · exact key 850 50 okNum_850 (by omega) (by omega)
  by_cases c18 : m < 950
  · exact key 900 50 okNum_900 (by omega) (by omega)
  by_cases c19 : m < 1000
  · exact key 950 50 okNum_950 (by omega) (by omega)
  omega
end Go.Proofs
