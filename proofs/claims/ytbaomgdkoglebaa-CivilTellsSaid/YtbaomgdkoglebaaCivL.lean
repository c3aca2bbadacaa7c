/- The walks of the laws on days and dates: each returns true, and nothing that was there turns. -/
import Derived.Test.YtbaomgdkoglebaaCivN
import Derived.Test.YtbaomgdkoglebaaCivR
namespace Go.Proofs.Ytbaomgdkoglebaa
open Go.RowKit
namespace Civ

theorem valid_alive : validI 2026 11 15 := by unfold validI; decide
theorem num_alive : numI 2026 11 15 = 9815 := by decide
theorem week_alive : weekI 9815 = 6 := by decide

set_option maxHeartbeats 400000 in
theorem Alive (w : World) : Calls Try.prog 13 #[] w fun e w' => e = .returned (.bool true) ∧ Below w.heap.size w w' := by
  go_enter Try.func13, Try.ntmps13
  go_wp2_with fail
  refine (Number_yes _ _ _ _ valid_alive).mono ?_
  rw [num_alive]
  rintro e w1 ⟨rfl, hb⟩
  obtain ⟨n1, rfl⟩ := After.of hb
  go_wp2_with fail
  refine (Week_any _ _ (by omega) (by omega)).mono ?_
  rw [week_alive]
  rintro e w1 ⟨rfl, rfl⟩
  go_wp2
  go_ret
  exact ⟨rfl, n1.below⟩

/-- a year's months -/
theorem valid_jan {y : Int} (h : 2000 ≤ y ∧ y ≤ 2399) : validI y 1 1 := ⟨by omega, by have := len_pos (y := y) (m := 1) ⟨h.1, h.2, by omega, by omega⟩; omega⟩
theorem valid_dec {y : Int} (h : 2000 ≤ y ∧ y ≤ 2399) : validI y 12 31 := ⟨by omega, by unfold lenI; simp; omega⟩
theorem num_jan (y : Int) : numI y 1 1 = yearsI y := by unfold numI; rw [cum_1]; omega
theorem num_dec (y : Int) : numI y 12 31 = yearsI y + 364 + leapI y := by unfold numI cumI; simp; omega

set_option maxHeartbeats 400000 in
theorem CivilYears_out (y : Int) (w : World) (h : y < 2000 ∨ 2399 < y) : Calls Try.prog 3 #[.int .i64 y] w fun e w' => e = .returned (.bool true) ∧ Below w.heap.size w w' := by
  have hl : lenI y 1 = 0 := by unfold lenI; rw [if_pos (by omega)]
  have hl := Lib.hid hl
  by_cases h1 : y < 2000
  · go_enter Try.func3, Try.ntmps3
    go_wp2_with fail
    refine (Alive _).mono ?_
    rintro e w1 ⟨rfl, hb⟩
    obtain ⟨n1, rfl⟩ := After.of hb
    go_wp2_with fail
    refine (Length_any _ _ _).mono ?_
    rw [hl.out]
    rintro e w1 ⟨rfl, rfl⟩
    go_wp2
    go_ret
    exact ⟨rfl, n1.below⟩
  · have h2 : 2399 < y := by omega
    go_enter Try.func3, Try.ntmps3
    go_wp2_with fail
    refine (Alive _).mono ?_
    rintro e w1 ⟨rfl, hb⟩
    obtain ⟨n1, rfl⟩ := After.of hb
    go_wp2_with fail
    refine (Length_any _ _ _).mono ?_
    rw [hl.out]
    rintro e w1 ⟨rfl, rfl⟩
    go_wp2
    go_ret
    exact ⟨rfl, n1.below⟩

set_option maxHeartbeats 1000000 in
theorem CivilYears_in (y : Int) (w : World) (h1 : 2000 ≤ y) (h2 : y ≤ 2399) : Calls Try.prog 3 #[.int .i64 y] w fun e w' => e = .returned (.bool true) ∧ Below w.heap.size w w' := by
  have ylo := years_lo h1
  have yhi := years_hi h1
  have g1 : decide (y < 2000) = false := by simp; omega
  have g2 : decide (2399 < y) = false := by simp; omega
  go_enter Try.func3, Try.ntmps3
  go_wp2_with fail
  refine (Alive _).mono ?_
  rintro e w1 ⟨rfl, hb⟩
  obtain ⟨n1, rfl⟩ := After.of hb
  go_wp2_with fail
  go_loopg [3, 4] 12 (fun g n k wr => ∃ j : Int, 1 ≤ j ∧ j ≤ 13 ∧ g = (13 - j).toNat ∧ k = .int .i64 j ∧ n = .int .i64 (cumI y j) ∧ wr = n1.w)
  case atStart => exact ⟨1, by omega, by omega, rfl, rfl, by rw [cum_1], rfl⟩
  case round =>
    obtain ⟨j, hj1, hj2, hg, rfl, rfl, rfl⟩ := hrel
    have hg := Lib.hid hg
    have cb := cum_bd y j
    have lb := len_bd y j
    by_cases hlt : j ≤ 12
    · go_wp2_with (go_at_call 14; refine (Length_any _ _ _).mono ?_; rintro e w' ⟨rfl, rfl⟩)
      go_roundg (13 - (j + 1)).toNat
      case measure => rw [hg.out]; omega
      case rel => exact ⟨j + 1, by omega, by omega, rfl, rfl, by rw [cum_succ ⟨h1, h2⟩ (by omega)] <;> go_num, rfl⟩
    · have e : j = 13 := by omega
      subst e
      clear hg cb lb
      rw [cum_13]
      rcases leapI_01 y with hl | hl
      · have nd := num_dec y
        rw [hl]
        rw [hl] at nd
        have nd := Lib.hid nd
        have hl := Lib.hid hl
        go_wp2_with fail
        refine (Leap_no y _ (by omega) hl.out).mono ?_
        rintro e w1 ⟨rfl, rfl⟩
        go_wp2_with fail
        refine (Number_yes _ _ _ _ (valid_jan ⟨h1, h2⟩)).mono ?_
        rw [num_jan]
        rintro e w1 ⟨rfl, hb⟩
        obtain ⟨n2, rfl⟩ := After.of hb
        go_wp2_with fail
        refine (Number_yes _ _ _ _ (valid_dec ⟨h1, h2⟩)).mono ?_
        rw [nd.out]
        rintro e w1 ⟨rfl, hb⟩
        obtain ⟨n3, rfl⟩ := After.of hb
        go_wp2
        go_ret
        exact ⟨ret_bool (by simp; omega), (n1.below.trans (n2.below.mono n1.size)).trans (n3.below.mono (Nat.le_trans n1.size n2.size))⟩
      · have nd := num_dec y
        rw [hl]
        rw [hl] at nd
        have nd := Lib.hid nd
        have hl := Lib.hid hl
        go_wp2_with fail
        refine (Leap_yes y _ (by omega) hl.out).mono ?_
        rintro e w1 ⟨rfl, rfl⟩
        go_wp2_with fail
        refine (Number_yes _ _ _ _ (valid_jan ⟨h1, h2⟩)).mono ?_
        rw [num_jan]
        rintro e w1 ⟨rfl, hb⟩
        obtain ⟨n2, rfl⟩ := After.of hb
        go_wp2_with fail
        refine (Number_yes _ _ _ _ (valid_dec ⟨h1, h2⟩)).mono ?_
        rw [nd.out]
        rintro e w1 ⟨rfl, hb⟩
        obtain ⟨n3, rfl⟩ := After.of hb
        go_wp2
        go_ret
        exact ⟨ret_bool (by simp; omega), (n1.below.trans (n2.below.mono n1.size)).trans (n3.below.mono (Nat.le_trans n1.size n2.size))⟩

theorem CivilYears_true (y : Int) (w : World) : Calls Try.prog 3 #[.int .i64 y] w fun e w' => e = .returned (.bool true) ∧ Below w.heap.size w w' := by
  by_cases h : y < 2000 ∨ 2399 < y
  · exact CivilYears_out y w h
  · exact CivilYears_in y w (by omega) (by omega)

end Civ
end Go.Proofs.Ytbaomgdkoglebaa
