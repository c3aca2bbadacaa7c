/- The walks of civil.Number and civil.Of. -/
import Derived.Test.YtbadplbdgpbdaaaDoorCiv
namespace Go.Proofs.YtbadplbdgpbdaaaDoor
open Go.RowKit
namespace Civ

set_option maxHeartbeats 400000 in
theorem Number_no (y m d : Int) (w : World) (h : ¬ validI y m d) :
    Calls Tryd.prog 115 #[.agg #[.int .i64 y, .int .i64 m, .int .i64 d]] w fun e w' => e = .returned (.tuple #[.int .i64 0, .int .i64 3]) ∧ Below w.heap.size w w' := by
  by_cases h1 : d < 1
  · go_enter Tryd.func115, Tryd.ntmps115
    go_wp2
    refine wp_region_below (w.heap.size + 1) _ (Below.refl _ _) (by kernel_rfl) (by kernel_rfl) ?_
    repeat (go_big_quiet_step ((fail)))
    refine wpQuiet_nil ?_
    rintro _ ⟨n1, rfl⟩
    go_wp2
    go_ret2
    exact ⟨rfl, ((Below.refl _ _).alloc (Nat.le_refl _) _).trans (n1.below.mono (by omega))⟩
  · have h2 : lenI y m < d := by unfold validI at h; omega
    clear h
    have g1 : decide (d < 1) = false := by simp; omega
    go_enter Tryd.func115, Tryd.ntmps115
    go_wp2
    refine wp_region_below (w.heap.size + 1) _ (Below.refl _ _) (by kernel_rfl) (by kernel_rfl) ?_
    repeat (go_big_quiet_step ((go_at_call 120; exact quiet_same (Length_any _ _ _))))
    refine wpQuiet_nil ?_
    rintro _ ⟨n1, rfl⟩
    go_wp2
    go_ret2
    exact ⟨rfl, ((Below.refl _ _).alloc (Nat.le_refl _) _).trans (n1.below.mono (by omega))⟩

set_option maxHeartbeats 1000000 in
theorem Number_yes (y m d : Int) (w : World) (h : validI y m d) :
    Calls Tryd.prog 115 #[.agg #[.int .i64 y, .int .i64 m, .int .i64 d]] w fun e w' => e = .returned (.tuple #[.int .i64 (numI y m d), .int .i64 0]) ∧ Below w.heap.size w w' := by
  obtain ⟨y1, y2, m1, m2, d1, d2⟩ := valid_ranges h
  obtain ⟨_, hd⟩ := h
  have ylo := years_lo y1
  have yhi := years_hi y1
  have g1 : decide (d < 1) = false := by simp; omega
  have g2 : decide (lenI y m < d) = false := by simp; omega
  go_enter Tryd.func115, Tryd.ntmps115
  go_wp2
  refine wp_region_below (w.heap.size + 1) _ (Below.refl _ _) (by kernel_rfl) (by kernel_rfl) ?_
  repeat (go_big_quiet_step ((go_at_call 120; exact quiet_same (Length_any _ _ _))))
  refine wpQuiet_nil ?_
  rintro _ ⟨n0, rfl⟩
  go_wp2
  refine wp_region_below (w.heap.size + 1) _ (n0.below) (by kernel_rfl) (by kernel_rfl) ?_
  repeat (go_big_quiet_step ((go_at_call 121; exact quiet_same (years_any _ _ (by omega) (by omega)))))
  refine wpQuiet_nil ?_
  rintro _ ⟨n1, rfl⟩
  clear n0
  go_wp2
  go_loop [4, 5] (fun n k => ∃ j : Int, 1 ≤ j ∧ j ≤ m ∧ k = .int .i64 j ∧ n = .int .i64 (yearsI y + cumI y j + d - 1)) (fun _ k => (m - intOf k).toNat)
  case atStart => exact ⟨1, by omega, by omega, rfl, by rw [cum_1]; go_num⟩
  case round =>
    obtain ⟨j, hj1, hj2, rfl, rfl⟩ := hrel
    have cb := cum_bd y j
    have lb := len_bd y j
    by_cases hlt : j < m
    · go_wp2_with (go_at_call 120; refine (Length_any _ _ _).mono ?_; rintro e w' ⟨rfl, rfl⟩)
      go_round
      case rel => exact ⟨j + 1, by omega, by omega, rfl, by rw [cum_succ ⟨y1, y2⟩ (by omega)]; go_num⟩
      case measure => simp [intOf]; omega
    · have e : j = m := by omega
      subst e
      go_wp2
      go_ret2
      exact ⟨by unfold numI; rfl, ((Below.refl _ _).alloc (Nat.le_refl _) _).trans (n1.below.mono (by omega))⟩























































































end Civ
end Go.Proofs.YtbadplbdgpbdaaaDoor
