/- The walks of the document's own answers on days and dates. -/
import Derived.Test.YtfhedopfjgjffaaCiv
namespace Go.Proofs.Ytfhedopfjgjffaa
open Go.RowKit
namespace Civ

set_option maxHeartbeats 400000 in
theorem RLeap_any (y : Int) (w : World) (h0 : 0 ≤ y) :
    Calls Try.prog 137 #[.int .i64 y] w fun e w' => e = .returned (.bool (decide (leapI y = 1))) ∧ w = w' := by
  go_enter Try.func137, Try.ntmps137
  go_wp2
  all_goals go_ret
  all_goals exact ⟨ret_bool (by rw [Bool.eq_iff_iff]; unfold leapI; simp_all <;> omega), rfl⟩

theorem RLeap_yes (y : Int) (w : World) (h0 : 0 ≤ y) (h : leapI y = 1) :
    Calls Try.prog 137 #[.int .i64 y] w fun e w' => e = .returned (.bool true) ∧ w = w' :=
  (RLeap_any y w h0).mono fun _ _ ⟨he, hw⟩ => ⟨by rw [he]; simp [h], hw⟩
theorem RLeap_no (y : Int) (w : World) (h0 : 0 ≤ y) (h : leapI y = 0) :
    Calls Try.prog 137 #[.int .i64 y] w fun e w' => e = .returned (.bool false) ∧ w = w' :=
  (RLeap_any y w h0).mono fun _ _ ⟨he, hw⟩ => ⟨by rw [he]; simp [h], hw⟩

set_option maxHeartbeats 400000 in
theorem RYear_any (y : Int) (w : World) (h0 : 0 ≤ y) :
    Calls Try.prog 125 #[.int .i64 y] w fun e w' => e = .returned (.int .i64 (365 + leapI y)) ∧ w = w' := by
  rcases leapI_01 y with h | h
  · have h' := Lib.hid h
    go_enter Try.func125, Try.ntmps125
    go_wp2_with (go_at_call 137; refine (RLeap_no y _ h0 h'.out).mono ?_; rintro e w' ⟨rfl, rfl⟩)
    go_ret
    exact ⟨ret_int (by omega), rfl⟩
  · have h' := Lib.hid h
    go_enter Try.func125, Try.ntmps125
    go_wp2_with (go_at_call 137; refine (RLeap_yes y _ h0 h'.out).mono ?_; rintro e w' ⟨rfl, rfl⟩)
    go_ret
    exact ⟨ret_int (by omega), rfl⟩

set_option maxHeartbeats 400000 in
theorem RLength_outy (y m : Int) (w : World) (hr : y < 2000 ∨ 2399 < y) :
    Calls Try.prog 124 #[.int .i64 y, .int .i64 m] w fun e w' => e = .returned (.int .i64 0) ∧ w = w' := by
  by_cases h1 : y < 2000
  · go_enter Try.func124, Try.ntmps124
    go_wp2
    go_ret
    exact ⟨rfl, rfl⟩
  · have h2 : 2399 < y := by omega
    go_enter Try.func124, Try.ntmps124
    go_wp2
    go_ret
    exact ⟨rfl, rfl⟩

set_option maxHeartbeats 400000 in
theorem RLength_outm (y m : Int) (w : World) (h1 : 2000 ≤ y) (h2 : y ≤ 2399) (hm : m < 1 ∨ 12 < m) :
    Calls Try.prog 124 #[.int .i64 y, .int .i64 m] w fun e w' => e = .returned (.int .i64 0) ∧ w = w' := by
  have n : ∀ k : Int, 1 ≤ k → k ≤ 12 → (m == k) = false := fun k _ _ => by rw [beq_eq_false_iff_ne]; omega
  have n1 := n 1 (by omega) (by omega); have n2 := n 2 (by omega) (by omega); have n3 := n 3 (by omega) (by omega); have n4 := n 4 (by omega) (by omega)
  have n5 := n 5 (by omega) (by omega); have n6 := n 6 (by omega) (by omega); have n7 := n 7 (by omega) (by omega); have n8 := n 8 (by omega) (by omega)
  have n9 := n 9 (by omega) (by omega); have n10 := n 10 (by omega) (by omega); have n11 := n 11 (by omega) (by omega); have n12 := n 12 (by omega) (by omega)
  clear n hm
  go_enter Try.func124, Try.ntmps124
  go_wp2
  go_ret
  exact ⟨rfl, rfl⟩

set_option maxHeartbeats 2000000 in
theorem RLength_in (y m : Int) (w : World) (h1 : 2000 ≤ y) (h2 : y ≤ 2399) (h3 : 1 ≤ m) (h4 : m ≤ 12) (hm : m ≠ 2) :
    Calls Try.prog 124 #[.int .i64 y, .int .i64 m] w fun e w' => e = .returned (.int .i64 (lenI y m)) ∧ w = w' := by
  have e' : m = 1 ∨ m = 3 ∨ m = 4 ∨ m = 5 ∨ m = 6 ∨ m = 7 ∨ m = 8 ∨ m = 9 ∨ m = 10 ∨ m = 11 ∨ m = 12 := by omega
  clear h3 h4 hm
  rcases e' with rfl | rfl | rfl | rfl | rfl | rfl | rfl | rfl | rfl | rfl | rfl
  all_goals
    go_enter Try.func124, Try.ntmps124
    go_wp2
    go_ret
    exact ⟨ret_int (by unfold lenI; simp; omega), rfl⟩

set_option maxHeartbeats 1000000 in
theorem RLength_feb (y : Int) (w : World) (h1 : 2000 ≤ y) (h2 : y ≤ 2399) :
    Calls Try.prog 124 #[.int .i64 y, .int .i64 2] w fun e w' => e = .returned (.int .i64 (lenI y 2)) ∧ w = w' := by
  rcases leapI_01 y with h | h
  · have h' := Lib.hid h
    go_enter Try.func124, Try.ntmps124
    go_wp2_with (go_at_call 137; refine (RLeap_no y _ (by omega) h'.out).mono ?_; rintro e w' ⟨rfl, rfl⟩)
    go_ret
    exact ⟨ret_int (by unfold lenI; rw [h]; simp; omega), rfl⟩
  · have h' := Lib.hid h
    go_enter Try.func124, Try.ntmps124
    go_wp2_with (go_at_call 137; refine (RLeap_yes y _ (by omega) h'.out).mono ?_; rintro e w' ⟨rfl, rfl⟩)
    go_ret
    exact ⟨ret_int (by unfold lenI; rw [h]; simp; omega), rfl⟩

theorem RLength_any (y m : Int) (w : World) :
    Calls Try.prog 124 #[.int .i64 y, .int .i64 m] w fun e w' => e = .returned (.int .i64 (lenI y m)) ∧ w = w' := by
  by_cases hy : y < 2000 ∨ 2399 < y
  · rw [show lenI y m = 0 by unfold lenI; rw [if_pos (by omega)]]
    exact RLength_outy y m w hy
  · by_cases hm : m < 1 ∨ 12 < m
    · rw [show lenI y m = 0 by unfold lenI; rw [if_pos (by omega)]]
      exact RLength_outm y m w (by omega) (by omega) hm
    · by_cases hm : m = 2
      · subst hm; exact RLength_feb y w (by omega) (by omega)
      · exact RLength_in y m w (by omega) (by omega) (by omega) (by omega) hm











set_option maxHeartbeats 1000000 in
theorem RNumber_no (y m d : Int) (w : World) (h : ¬ validI y m d) :
    Calls Try.prog 101 #[.agg #[.int .i64 y, .int .i64 m, .int .i64 d]] w fun e w' => e = .returned (.tuple #[.int .i64 0, .int .i64 3]) ∧ Below w.heap.size w w' := by
  have lb := len_bd y m
  by_cases h0 : lenI y m = 0
  · have g0 : (lenI y m == 0) = true := by simpa using h0
    clear h0
    go_enter Try.func101, Try.ntmps101
    go_wp2
    refine wp_region_below (w.heap.size + 1) _ (Below.refl _ _) (by kernel_rfl) (by kernel_rfl) ?_
    repeat (go_big_quiet_step ((go_at_call 124; exact quiet_same (RLength_any _ _ _))))
    refine wpQuiet_nil ?_
    rintro _ ⟨n1, rfl⟩
    go_wp2
    go_ret2
    exact ⟨rfl, ((Below.refl _ _).alloc (Nat.le_refl _) _).trans (n1.below.mono (by omega))⟩
  have g0 : (lenI y m == 0) = false := by simpa using h0
  clear h0
  by_cases h1 : d < 1
  · go_enter Try.func101, Try.ntmps101
    go_wp2
    refine wp_region_below (w.heap.size + 1) _ (Below.refl _ _) (by kernel_rfl) (by kernel_rfl) ?_
    repeat (go_big_quiet_step ((go_at_call 124; exact quiet_same (RLength_any _ _ _))))
    refine wpQuiet_nil ?_
    rintro _ ⟨n1, rfl⟩
    go_wp2
    go_ret2
    exact ⟨rfl, ((Below.refl _ _).alloc (Nat.le_refl _) _).trans (n1.below.mono (by omega))⟩
  · have h2 : lenI y m < d := by unfold validI at h; omega
    clear h
    have g1 : decide (d < 1) = false := by simp; omega
    go_enter Try.func101, Try.ntmps101
    go_wp2
    refine wp_region_below (w.heap.size + 1) _ (Below.refl _ _) (by kernel_rfl) (by kernel_rfl) ?_
    repeat (go_big_quiet_step ((go_at_call 124; exact quiet_same (RLength_any _ _ _))))
    refine wpQuiet_nil ?_
    rintro _ ⟨n1, rfl⟩
    go_wp2
    go_ret2
    exact ⟨rfl, ((Below.refl _ _).alloc (Nat.le_refl _) _).trans (n1.below.mono (by omega))⟩

set_option maxHeartbeats 1000000 in
theorem RNumber_yes (y m d : Int) (w : World) (h : validI y m d) :
    Calls Try.prog 101 #[.agg #[.int .i64 y, .int .i64 m, .int .i64 d]] w fun e w' => e = .returned (.tuple #[.int .i64 (numI y m d), .int .i64 0]) ∧ Below w.heap.size w w' := by
  obtain ⟨y1, y2, m1, m2, d1, d2⟩ := valid_ranges h
  obtain ⟨_, hd⟩ := h
  have g0 : (lenI y m == 0) = false := by rw [beq_eq_false_iff_ne]; omega
  have g1 : decide (d < 1) = false := by simp; omega
  have g2 : decide (lenI y m < d) = false := by simp; omega
  go_enter Try.func101, Try.ntmps101
  go_wp2
  refine wp_region_below (w.heap.size + 1) _ (Below.refl _ _) (by kernel_rfl) (by kernel_rfl) ?_
  repeat (go_big_quiet_step ((go_at_call 124; exact quiet_same (RLength_any _ _ _))))
  refine wpQuiet_nil ?_
  rintro _ ⟨n1, rfl⟩
  go_wp2
  go_loopg [4, 5] (y - 2000).toNat (fun g n k wr => ∃ j : Int, 2000 ≤ j ∧ j ≤ y ∧ g = (y - j).toNat ∧ k = .int .i64 j ∧ n = .int .i64 (d - 1 + yearsI j) ∧ wr = n1.w)
  case atStart => exact ⟨2000, by omega, by omega, rfl, rfl, by rw [years_2000]; go_num, rfl⟩
  case round =>
    obtain ⟨j, hj1, hj2, hg, rfl, rfl, rfl⟩ := hrel
    have hg := Lib.hid hg
    have ylo := years_lo hj1
    have yhi := years_hi hj1
    have ll := leapI_01 j
    by_cases hlt : j < y
    · go_wp2_with (go_at_call 125; refine (RYear_any _ _ (by omega)).mono ?_; rintro e w' ⟨rfl, rfl⟩)
      go_roundg (y - (j + 1)).toNat
      case measure => rw [hg.out]; omega
      case rel => exact ⟨j + 1, by omega, by omega, rfl, rfl, by rw [years_succ hj1]; go_num, rfl⟩
    · have e : j = y := by omega
      subst e
      clear hg
      go_wp2
      go_loopg [4, 6] (m - 1).toNat (fun g n k wr => ∃ i : Int, 1 ≤ i ∧ i ≤ m ∧ g = (m - i).toNat ∧ k = .int .i64 i ∧ n = .int .i64 (d - 1 + yearsI j + cumI j i) ∧ wr = n1.w)
      case atStart => exact ⟨1, by omega, by omega, rfl, rfl, by rw [cum_1]; go_num, rfl⟩
      case round =>
        obtain ⟨i, hi1, hi2, hg, rfl, rfl, rfl⟩ := hrel
        have hg := Lib.hid hg
        have cb := cum_bd j i
        have lb := len_bd j i
        by_cases hlt : i < m
        · go_wp2_with (go_at_call 124; refine (RLength_any _ _ _).mono ?_; rintro e w' ⟨rfl, rfl⟩)
          go_roundg (m - (i + 1)).toNat
          case measure => rw [hg.out]; omega
          case rel => exact ⟨i + 1, by omega, by omega, rfl, rfl, by rw [cum_succ ⟨y1, y2⟩ (by omega)]; go_num, rfl⟩
        · have e : i = m := by omega
          subst e
          go_wp2
          go_ret2
          exact ⟨ret_int2 (by unfold numI; omega), ((Below.refl _ _).alloc (Nat.le_refl _) _).trans (n1.below.mono (by omega))⟩




































































































































end Civ
end Go.Proofs.Ytfhedopfjgjffaa
