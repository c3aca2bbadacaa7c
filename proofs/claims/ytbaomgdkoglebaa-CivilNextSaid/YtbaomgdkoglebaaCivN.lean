/- The walks of civil.Number and civil.Of. -/
import Derived.Test.YtbaomgdkoglebaaCiv
namespace Go.Proofs.Ytbaomgdkoglebaa
open Go.RowKit
namespace Civ

set_option maxHeartbeats 400000 in
theorem Number_no (y m d : Int) (w : World) (h : ¬ validI y m d) :
    Calls Try.prog 16 #[.agg #[.int .i64 y, .int .i64 m, .int .i64 d]] w fun e w' => e = .returned (.tuple #[.int .i64 0, .int .i64 3]) ∧ Below w.heap.size w w' := by
  by_cases h1 : d < 1
  · go_enter Try.func16, Try.ntmps16
    go_wp2
    refine wp_region_below (w.heap.size + 1) _ (Below.refl _ _) (by kernel_rfl) (by kernel_rfl) ?_
    repeat (go_big_quiet_step ((fail)))
    refine wpQuiet_nil ?_
    rintro _ ⟨n1, rfl⟩
    go_wp2
    go_ret2
    exact ⟨rfl, ((Below.refl _ _).alloc (Nat.le_refl _) _).trans (n1.below.mono (by omega))⟩
  · have h2 : lenI y m < d := by unfold validI at h; omega
    clear h
    have g1 : decide (d < 1) = false := by simp; omega
    go_enter Try.func16, Try.ntmps16
    go_wp2
    refine wp_region_below (w.heap.size + 1) _ (Below.refl _ _) (by kernel_rfl) (by kernel_rfl) ?_
    repeat (go_big_quiet_step ((go_at_call 14; exact quiet_same (Length_any _ _ _))))
    refine wpQuiet_nil ?_
    rintro _ ⟨n1, rfl⟩
    go_wp2
    go_ret2
    exact ⟨rfl, ((Below.refl _ _).alloc (Nat.le_refl _) _).trans (n1.below.mono (by omega))⟩

set_option maxHeartbeats 1000000 in
theorem Number_yes (y m d : Int) (w : World) (h : validI y m d) :
    Calls Try.prog 16 #[.agg #[.int .i64 y, .int .i64 m, .int .i64 d]] w fun e w' => e = .returned (.tuple #[.int .i64 (numI y m d), .int .i64 0]) ∧ Below w.heap.size w w' := by
  obtain ⟨y1, y2, m1, m2, d1, d2⟩ := valid_ranges h
  obtain ⟨_, hd⟩ := h
  have ylo := years_lo y1
  have yhi := years_hi y1
  have g1 : decide (d < 1) = false := by simp; omega
  have g2 : decide (lenI y m < d) = false := by simp; omega
  go_enter Try.func16, Try.ntmps16
  go_wp2
  refine wp_region_below (w.heap.size + 1) _ (Below.refl _ _) (by kernel_rfl) (by kernel_rfl) ?_
  repeat (go_big_quiet_step ((go_at_call 14; exact quiet_same (Length_any _ _ _))))
  refine wpQuiet_nil ?_
  rintro _ ⟨n0, rfl⟩
  go_wp2
  refine wp_region_below (w.heap.size + 1) _ (n0.below) (by kernel_rfl) (by kernel_rfl) ?_
  repeat (go_big_quiet_step ((go_at_call 32; exact quiet_same (years_any _ _ (by omega) (by omega)))))
  refine wpQuiet_nil ?_
  rintro _ ⟨n1, rfl⟩
  clear n0
  go_wp2
  go_loop [4, 5] (fun n k => ∃ j : Int, 1 ≤ j ∧ j ≤ m ∧ k = .int .i64 j ∧ n = .int .i64 (yearsI y + cumI y j + d - 1)) (fun _ k => (m - intOf k).toNat)
  case atStart => exact ⟨1, by omega, by omega, rfl, by rw [cum_1]; go_num⟩
  case round =>
    obtain ⟨j, hj1, hj2, rfl, rfl⟩ := hrel
    have cb := cum_bd y j
    have lb := len_bd y j
    by_cases hlt : j < m
    · go_wp2_with (go_at_call 14; refine (Length_any _ _ _).mono ?_; rintro e w' ⟨rfl, rfl⟩)
      go_round
      case rel => exact ⟨j + 1, by omega, by omega, rfl, by rw [cum_succ ⟨y1, y2⟩ (by omega)]; go_num⟩
      case measure => simp [intOf]; omega
    · have e : j = m := by omega
      subst e
      go_wp2
      go_ret2
      exact ⟨by unfold numI; rfl, ((Below.refl _ _).alloc (Nat.le_refl _) _).trans (n1.below.mono (by omega))⟩

/-- the first guess of a day's year is not above it -/
theorem guess_le {n : Int} (h0 : 0 ≤ n) (_h1 : n < 146097) : yearsI (2000 + n / 366) ≤ n := by
  have := years_hi (show (2000 : Int) ≤ 2000 + n / 366 by omega)
  omega

set_option maxHeartbeats 400000 in
theorem Of_no (n : Int) (w : World) (h : n < 0 ∨ 146097 ≤ n) :
    Calls Try.prog 20 #[.int .i64 n] w fun e w' => e = .returned (.tuple #[.agg #[.int .i64 0, .int .i64 0, .int .i64 0], .int .i64 3]) ∧ Below w.heap.size w w' := by
  by_cases h1 : n < 0
  · go_enter Try.func20, Try.ntmps20
    go_wp2
    exact bodyPost_ret (v := .tuple #[.agg #[.int .i64 0, .int .i64 0, .int .i64 0], .int .i64 3]) (by simp [results, Try.results20, go_sem]) rfl ⟨rfl, (Below.refl _ _).alloc (Nat.le_refl _) _⟩
  · have h2 : 146097 ≤ n := by omega
    have g1 : decide (n < 0) = false := by simp; omega
    go_enter Try.func20, Try.ntmps20
    go_wp2
    exact bodyPost_ret (v := .tuple #[.agg #[.int .i64 0, .int .i64 0, .int .i64 0], .int .i64 3]) (by simp [results, Try.results20, go_sem]) rfl ⟨rfl, (Below.refl _ _).alloc (Nat.le_refl _) _⟩

def ofWorld (w : World) (y m d : Int) : World := (w.alloc (.cells #[.int .i64 0, .int .i64 0, .int .i64 0] 29)).alloc (.cells #[.int .i64 y, .int .i64 m, .int .i64 d] 29)

set_option maxHeartbeats 1000000 in
theorem Of_yes (n : Int) (w : World) (h1 : 0 ≤ n) (h2 : n < 146097) :
    Calls Try.prog 20 #[.int .i64 n] w fun e w' => ∃ y m d : Int, e = .returned (.tuple #[.agg #[.int .i64 y, .int .i64 m, .int .i64 d], .int .i64 0]) ∧ validI y m d ∧ numI y m d = n ∧ Below w.heap.size w w' := by
  have g0 := guess_le h1 h2
  have g1 : decide (n < 0) = false := by simp; omega
  have g2 : decide (146097 ≤ n) = false := by simp; omega
  go_enter Try.func20, Try.ntmps20
  go_wp2
  go_loopg [] (2399 - (2000 + n / 366)).toNat (fun k wr => ∃ y : Int, 2000 ≤ y ∧ y ≤ 2399 ∧ yearsI y ≤ n ∧ k = (2399 - y).toNat ∧ wr = (w.alloc (.cells #[.int .i64 0, .int .i64 0, .int .i64 0] 29)).alloc (.cells #[.int .i64 y, .int .i64 1, .int .i64 0] 29))
  case atStart => exact ⟨2000 + n / 366, by omega, by omega, g0, rfl, rfl⟩
  case round =>
    obtain ⟨y, y1, y2, y3, hk, rfl⟩ := hrel
    have hk := Lib.hid hk
    have ylo := years_lo y1
    by_cases hc : y < 2399 ∧ yearsI (y + 1) ≤ n
    · obtain ⟨hlt, hd⟩ := hc
      go_wp2_with (go_at_call 32; refine (years_any _ _ (by omega) (by omega)).mono ?_; rintro e w' ⟨rfl, rfl⟩)
      go_roundg (2399 - (y + 1)).toNat
      case measure => rw [hk.out]; omega
      case rel => exact ⟨y + 1, by omega, by omega, hd, rfl, rfl⟩
    · have hz : n < yearsI (y + 1) := by
        by_cases e : y = 2399
        · subst e; have := years_2400; show n < yearsI 2400; omega
        · omega
      have hs := years_succ y1
      have hl := leapI_01 y
      have hb : n - yearsI y < 366 := by omega
      clear hc g0 hk
      have hy : decide (y < 2399) = false ∨ decide (y < 2399) = true ∧ y < 2399 := by
        by_cases e : y < 2399
        · exact .inr ⟨by simpa using e, e⟩
        · exact .inl (by simpa using e)
      have cx : numI y 1 0 = yearsI y - 1 := by unfold numI; rw [cum_1]; omega
      have HC := Lib.hid cx
      clear cx
      rcases hy with hy | ⟨_, hy⟩
      all_goals
        go_wp2_with (go_at_call 32; refine (years_any _ _ (by omega) (by omega)).mono ?_; rintro e w' ⟨rfl, rfl⟩)
        go_loopg [0] 12 (fun k v wr => ∃ m : Int, 1 ≤ m ∧ m ≤ 12 ∧ cumI y m ≤ n - yearsI y ∧ k = (13 - m).toNat ∧ v = .int .i64 (n - yearsI y - cumI y m) ∧ wr = (w.alloc (.cells #[.int .i64 0, .int .i64 0, .int .i64 0] 29)).alloc (.cells #[.int .i64 y, .int .i64 m, .int .i64 0] 29))
        case atStart => exact ⟨1, by omega, by omega, by rw [cum_1]; omega, rfl, by rw [cum_1]; simp, rfl⟩
        case round =>
          obtain ⟨m, hm1, hm2, hm3, hk, rfl, rfl⟩ := hrel
          have hk := Lib.hid hk
          have cs := cum_succ ⟨y1, y2⟩ ⟨hm1, hm2⟩
          have cb := cum_bd y m
          have lb := len_bd y m
          by_cases hc : lenI y m ≤ n - yearsI y - cumI y m
          · have hm : m < 12 := by
              by_cases e : m = 12
              · subst e
                rw [show (12 : Int) + 1 = 13 from rfl, cum_13] at cs
                omega
              · omega
            have cs := Lib.hid cs
            go_wp2_with (go_at_call 14; refine (Length_any _ _ _).mono ?_; rintro e w' ⟨rfl, rfl⟩)
            go_roundg (13 - (m + 1)).toNat
            case measure => rw [hk.out]; omega
            case rel => exact ⟨m + 1, by omega, by omega, by rw [cs.out]; omega, rfl, by rw [cs.out]; go_num, rfl⟩
          · have hv : n - yearsI y - cumI y m < lenI y m := by omega
            clear hc cs
            go_wp2_with (go_at_call 14; refine (Length_any _ _ _).mono ?_; rintro e w' ⟨rfl, rfl⟩)
            refine bodyPost_ret (v := .tuple #[.agg #[.int .i64 y, .int .i64 m, .int .i64 (n - yearsI y - cumI y m + 1)], .int .i64 0]) (by simp [results, Try.results20, go_sem]) rfl ⟨y, m, _, rfl, ⟨by omega, by omega⟩, by unfold numI; omega, ?_⟩
            exact (((Below.refl _ _).alloc (Nat.le_refl _) _).alloc (by simp) _)

end Civ
end Go.Proofs.Ytbaomgdkoglebaa
