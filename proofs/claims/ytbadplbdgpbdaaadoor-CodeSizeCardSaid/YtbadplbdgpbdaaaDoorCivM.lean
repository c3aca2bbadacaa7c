/- Days and dates as plain numbers: the lengths of months, the days ahead of a year and of a month, and that a valid date's day determines it. Nothing of the program is in sight. -/
import Derived.KernelRfl
namespace Go.Proofs.YtbadplbdgpbdaaaDoor
namespace Civ

/-- a leap year, for years that are not negative -/
def leapI (y : Int) : Int := if (y % 4 = 0 ∧ ¬ y % 100 = 0) ∨ y % 400 = 0 then 1 else 0
theorem leapI_01 (y : Int) : leapI y = 0 ∨ leapI y = 1 := by unfold leapI; split <;> simp

/-- the language's own form -/
def leapB (y : Int) : Bool := y.tmod 4 == 0 && y.tmod 100 != 0 || y.tmod 400 == 0
theorem leapB_eq {y : Int} (h : 0 ≤ y) : leapB y = decide (leapI y = 1) := by
  unfold leapB leapI
  rw [Int.tmod_eq_emod_of_nonneg h, Int.tmod_eq_emod_of_nonneg h, Int.tmod_eq_emod_of_nonneg h]
  rw [Bool.eq_iff_iff]
  simp only [Bool.or_eq_true, Bool.and_eq_true, beq_iff_eq, bne_iff_ne, decide_eq_true_eq]
  split
  · rename_i hc; simp; omega
  · rename_i hc; simp; omega

/-- how many days a month of a year has, if there is such -/
def lenI (y m : Int) : Int :=
  if y < 2000 ∨ 2399 < y ∨ m < 1 ∨ 12 < m then 0
  else if m = 2 then 28 + leapI y
  else if m = 4 ∨ m = 6 ∨ m = 9 ∨ m = 11 then 30 else 31

/-- days ahead of a year -/
def yearsI (y : Int) : Int := 365 * (y - 2000) + (y - 2000 + 3) / 4 - (y - 2000 + 99) / 100 + (y - 2000 + 399) / 400

/-- days ahead of a month -/
def cumI (y m : Int) : Int :=
  if m ≤ 1 then 0 else if m = 2 then 31 else
  (if m = 3 then 59 else if m = 4 then 90 else if m = 5 then 120 else if m = 6 then 151 else if m = 7 then 181 else if m = 8 then 212
   else if m = 9 then 243 else if m = 10 then 273 else if m = 11 then 304 else if m = 12 then 334 else 365) + leapI y

def validI (y m d : Int) : Prop := 1 ≤ d ∧ d ≤ lenI y m
def numI (y m d : Int) : Int := yearsI y + cumI y m + d - 1

theorem valid_ranges {y m d : Int} (h : validI y m d) : 2000 ≤ y ∧ y ≤ 2399 ∧ 1 ≤ m ∧ m ≤ 12 ∧ 1 ≤ d ∧ d ≤ 31 := by
  obtain ⟨h1, h2⟩ := h
  unfold lenI at h2
  have := leapI_01 y
  split at h2 <;> first | omega | (split at h2 <;> first | omega | (split at h2 <;> omega))

theorem len_bd (y m : Int) : 0 ≤ lenI y m ∧ lenI y m ≤ 31 := by
  unfold lenI
  have := leapI_01 y
  split <;> first | omega | (split <;> first | omega | (split <;> omega))
theorem len_pos {y m : Int} (h : 2000 ≤ y ∧ y ≤ 2399 ∧ 1 ≤ m ∧ m ≤ 12) : 28 ≤ lenI y m := by
  unfold lenI
  have := leapI_01 y
  split <;> first | omega | (split <;> first | omega | (split <;> omega))

theorem years_succ {y : Int} (_h : 2000 ≤ y) : yearsI (y + 1) = yearsI y + 365 + leapI y := by
  unfold yearsI leapI
  split <;> omega
theorem years_mono {a b : Int} (_h : a ≤ b) : yearsI a ≤ yearsI b := by
  unfold yearsI; omega
theorem years_lo {y : Int} (_h : 2000 ≤ y) : 365 * (y - 2000) ≤ yearsI y := by unfold yearsI; omega
theorem years_hi {y : Int} (_h : 2000 ≤ y) : yearsI y ≤ 366 * (y - 2000) := by unfold yearsI; omega
theorem years_2000 : yearsI 2000 = 0 := by decide
theorem years_2400 : yearsI 2400 = 146097 := by decide

theorem cum_succ {y m : Int} (hy : 2000 ≤ y ∧ y ≤ 2399) (h : 1 ≤ m ∧ m ≤ 12) : cumI y (m + 1) = cumI y m + lenI y m := by
  unfold cumI lenI
  have hm : m = 1 ∨ m = 2 ∨ m = 3 ∨ m = 4 ∨ m = 5 ∨ m = 6 ∨ m = 7 ∨ m = 8 ∨ m = 9 ∨ m = 10 ∨ m = 11 ∨ m = 12 := by omega
  have hn : ¬ (y < 2000 ∨ 2399 < y ∨ m < 1 ∨ 12 < m) := by omega
  rw [if_neg hn]
  rcases hm with rfl | rfl | rfl | rfl | rfl | rfl | rfl | rfl | rfl | rfl | rfl | rfl <;> simp <;> omega
theorem cum_1 (y : Int) : cumI y 1 = 0 := by simp [cumI]
theorem cum_13 (y : Int) : cumI y 13 = 365 + leapI y := by simp [cumI]
theorem cum_bd (y m : Int) : 0 ≤ cumI y m ∧ cumI y m ≤ 366 := by
  have := leapI_01 y
  unfold cumI
  omega
theorem cum_mono {y a b : Int} (hy : 2000 ≤ y ∧ y ≤ 2399) (ha : 1 ≤ a) (h : a < b) (hb : b ≤ 13) : cumI y a + lenI y a ≤ cumI y b := by
  rw [← cum_succ hy ⟨ha, by omega⟩]
  have := leapI_01 y
  unfold cumI
  have e : b = 2 ∨ b = 3 ∨ b = 4 ∨ b = 5 ∨ b = 6 ∨ b = 7 ∨ b = 8 ∨ b = 9 ∨ b = 10 ∨ b = 11 ∨ b = 12 ∨ b = 13 := by omega
  have e' : a = 1 ∨ a = 2 ∨ a = 3 ∨ a = 4 ∨ a = 5 ∨ a = 6 ∨ a = 7 ∨ a = 8 ∨ a = 9 ∨ a = 10 ∨ a = 11 ∨ a = 12 := by omega
  rcases e' with rfl | rfl | rfl | rfl | rfl | rfl | rfl | rfl | rfl | rfl | rfl | rfl <;>
    rcases e with rfl | rfl | rfl | rfl | rfl | rfl | rfl | rfl | rfl | rfl | rfl | rfl <;> first | omega | (simp; done) | (simp; omega)

/-- a valid date's day lies in its year -/
theorem num_in_year {y m d : Int} (h : validI y m d) : yearsI y ≤ numI y m d ∧ numI y m d < yearsI (y + 1) := by
  obtain ⟨h1, h2, h3, h4, h5, h6⟩ := valid_ranges h
  have a := cum_bd y m
  have b := years_succ h1
  have c : cumI y m + lenI y m ≤ cumI y 13 := cum_mono ⟨h1, h2⟩ h3 (by omega) (by omega)
  rw [cum_13] at c
  obtain ⟨_, hd⟩ := h
  unfold numI
  omega

theorem num_range {y m d : Int} (h : validI y m d) : 0 ≤ numI y m d ∧ numI y m d < 146097 := by
  obtain ⟨h1, h2, _⟩ := valid_ranges h
  have := num_in_year h
  have a := years_mono h1
  have b := years_mono (show y + 1 ≤ 2400 by omega)
  rw [years_2000] at a
  rw [years_2400] at b
  omega

/-- one date a day -/
theorem num_inj {y m d y' m' d' : Int} (h : validI y m d) (h' : validI y' m' d') (e : numI y m d = numI y' m' d') : y = y' ∧ m = m' ∧ d = d' := by
  have a := num_in_year h
  have a' := num_in_year h'
  obtain ⟨h1, h2, h3, h4, h5, h6⟩ := valid_ranges h
  obtain ⟨h1', h2', h3', h4', h5', h6'⟩ := valid_ranges h'
  have hy : y = y' := by
    rcases Int.lt_trichotomy y y' with hlt | heq | hgt
    · have := years_mono (show y + 1 ≤ y' by omega); omega
    · exact heq
    · have := years_mono (show y' + 1 ≤ y by omega); omega
  subst hy
  have b1 := h.2
  have b2 := h'.2
  have hm : m = m' := by
    rcases Int.lt_trichotomy m m' with hlt | heq | hgt
    · have := cum_mono ⟨h1, h2⟩ h3 hlt (by omega); unfold numI at e; omega
    · exact heq
    · have := cum_mono ⟨h1, h2⟩ h3' hgt (by omega); unfold numI at e; omega
  subst hm
  unfold numI at e
  exact ⟨rfl, rfl, by omega⟩

/-- a day's day of the week -/
def weekI (n : Int) : Int := (n + 5) % 7

theorem week_tmod (n : Int) : ((n + 5).tmod 7 + 7).tmod 7 = weekI n := by
  unfold weekI
  have h1 : (n + 5).tmod 7 + 7 ≥ 0 := by
    have := Int.lt_tmod_of_pos (n + 5) (show (0:Int) < 7 by omega); omega
  rw [Int.tmod_eq_emod_of_nonneg h1]
  by_cases h : n + 5 < 0
  · rw [Int.tmod_eq_emod]
    split
    · rename_i hc; omega
    · simp
  · rw [Int.tmod_eq_emod_of_nonneg (by omega)]; omega

end Civ
end Go.Proofs.YtbadplbdgpbdaaaDoor
