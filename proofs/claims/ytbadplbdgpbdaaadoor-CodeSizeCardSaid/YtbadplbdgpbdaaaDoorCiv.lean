/- The walks of package civil: what each call returns, and that it leaves the memory as it was but for new blocks. -/
import Derived.Test.YtbadplbdgpbdaaaDoorRows
import Derived.Test.YtbadplbdgpbdaaaDoorCivM
import Derived.Test.YtbadplbdgpbdaaaDoorApp
import Derived.Deep.QuietTactic
import Derived.BigQuiet
import Derived.Lib.Hide
namespace Go.Proofs.YtbadplbdgpbdaaaDoor
open Go.RowKit
namespace Civ


set_option maxHeartbeats 400000 in
theorem Leap_any (y : Int) (w : World) :
    Calls Tryd.prog 125 #[.int .i64 y] w fun e w' => e = .returned (.bool (leapB y)) ∧ w = w' := by
  go_enter Tryd.func125, Tryd.ntmps125
  go_wp2
  all_goals go_ret
  all_goals exact ⟨ret_bool (by simp [leapB, *]), rfl⟩

theorem Leap_yes (y : Int) (w : World) (h0 : 0 ≤ y) (h : leapI y = 1) :
    Calls Tryd.prog 125 #[.int .i64 y] w fun e w' => e = .returned (.bool true) ∧ w = w' :=
  (Leap_any y w).mono fun _ _ ⟨he, hw⟩ => ⟨by rw [he, leapB_eq h0]; simp [h], hw⟩
theorem Leap_no (y : Int) (w : World) (h0 : 0 ≤ y) (h : leapI y = 0) :
    Calls Tryd.prog 125 #[.int .i64 y] w fun e w' => e = .returned (.bool false) ∧ w = w' :=
  (Leap_any y w).mono fun _ _ ⟨he, hw⟩ => ⟨by rw [he, leapB_eq h0]; simp [h], hw⟩

set_option maxHeartbeats 400000 in
theorem Length_out (y m : Int) (w : World) (hr : y < 2000 ∨ 2399 < y ∨ m < 1 ∨ 12 < m) :
    Calls Tryd.prog 120 #[.int .i64 y, .int .i64 m] w fun e w' => e = .returned (.int .i64 0) ∧ w = w' := by
  by_cases h1 : y < 2000
  · go_enter Tryd.func120, Tryd.ntmps120
    go_wp2
    go_ret
    exact ⟨rfl, rfl⟩
  by_cases h2 : 2399 < y
  · go_enter Tryd.func120, Tryd.ntmps120
    go_wp2
    go_ret
    exact ⟨rfl, rfl⟩
  by_cases h3 : m < 1
  · go_enter Tryd.func120, Tryd.ntmps120
    go_wp2
    go_ret
    exact ⟨rfl, rfl⟩
  · have h4 : 12 < m := by omega
    go_enter Tryd.func120, Tryd.ntmps120
    go_wp2
    go_ret
    exact ⟨rfl, rfl⟩

set_option maxHeartbeats 1000000 in
theorem Length_in (y m : Int) (w : World) (h1 : 2000 ≤ y) (h2 : y ≤ 2399) (h3 : 1 ≤ m) (h4 : m ≤ 12) (hm : m ≠ 2) :
    Calls Tryd.prog 120 #[.int .i64 y, .int .i64 m] w fun e w' => e = .returned (.int .i64 (lenI y m)) ∧ w = w' := by
  have e' : m = 1 ∨ m = 3 ∨ m = 4 ∨ m = 5 ∨ m = 6 ∨ m = 7 ∨ m = 8 ∨ m = 9 ∨ m = 10 ∨ m = 11 ∨ m = 12 := by omega
  clear h3 h4 hm
  rcases e' with rfl | rfl | rfl | rfl | rfl | rfl | rfl | rfl | rfl | rfl | rfl
  all_goals
    go_enter Tryd.func120, Tryd.ntmps120
    go_wp2
    go_ret
    exact ⟨ret_int (by unfold lenI; simp; omega), rfl⟩

set_option maxHeartbeats 1000000 in
theorem Length_feb (y : Int) (w : World) (h1 : 2000 ≤ y) (h2 : y ≤ 2399) :
    Calls Tryd.prog 120 #[.int .i64 y, .int .i64 2] w fun e w' => e = .returned (.int .i64 (lenI y 2)) ∧ w = w' := by
  rcases leapI_01 y with h | h
  · go_enter Tryd.func120, Tryd.ntmps120
    go_wp2_with (go_at_call 125; refine (Leap_no y _ (by omega) (by assumption)).mono ?_; rintro e w' ⟨rfl, rfl⟩)
    go_ret
    exact ⟨ret_int (by unfold lenI; rw [h]; simp; omega), rfl⟩
  · go_enter Tryd.func120, Tryd.ntmps120
    go_wp2_with (go_at_call 125; refine (Leap_yes y _ (by omega) (by assumption)).mono ?_; rintro e w' ⟨rfl, rfl⟩)
    go_ret
    exact ⟨ret_int (by unfold lenI; rw [h]; simp; omega), rfl⟩

theorem Length_any (y m : Int) (w : World) :
    Calls Tryd.prog 120 #[.int .i64 y, .int .i64 m] w fun e w' => e = .returned (.int .i64 (lenI y m)) ∧ w = w' := by
  by_cases hr : y < 2000 ∨ 2399 < y ∨ m < 1 ∨ 12 < m
  · rw [show lenI y m = 0 by unfold lenI; rw [if_pos hr]]
    exact Length_out y m w hr
  · by_cases hm : m = 2
    · subst hm; exact Length_feb y w (by omega) (by omega)
    · exact Length_in y m w (by omega) (by omega) (by omega) (by omega) hm

set_option maxHeartbeats 400000 in
theorem years_any (y : Int) (w : World) (h1 : 2000 ≤ y) (h2 : y ≤ 2400) :
    Calls Tryd.prog 121 #[.int .i64 y] w fun e w' => e = .returned (.int .i64 (yearsI y)) ∧ w = w' := by
  go_enter Tryd.func121, Tryd.ntmps121
  go_wp2
  go_ret
  exact ⟨ret_int (by unfold yearsI; omega), rfl⟩


set_option maxHeartbeats 400000 in
theorem Week_any (n : Int) (w : World) (h1 : -9223372036854775808 ≤ n) (h2 : n < 9223372036854775000) :
    Calls Tryd.prog 57 #[.int .i64 n] w fun e w' => e = .returned (.int .i64 (weekI n)) ∧ w = w' := by
  have b1 : -7 < (n + 5).tmod 7 := by have := Int.lt_tmod_of_pos (n + 5) (show (0:Int) < 7 by omega); omega
  have b2 : (n + 5).tmod 7 < 7 := Int.tmod_lt_of_pos _ (by omega)
  have e := Lib.hid (week_tmod n)
  go_enter Tryd.func57, Tryd.ntmps57
  go_wp2
  go_ret
  exact ⟨ret_int (by rw [← e.out]; rw [Int.tmod_eq_emod_of_nonneg (a := (n + 5).tmod 7 + 7) (by omega)]), rfl⟩


end Civ
end Go.Proofs.YtbadplbdgpbdaaaDoor
