/- The walk of slotref2.Has. -/
import Derived.Test.YtbaomgdkoglebaaMask
import Derived.BigRegion
import Derived.BigQuiet
namespace Go.Proofs.Ytbaomgdkoglebaa
open Go.RowKit
namespace Msk

/-- has a mask a minute, whatever the number? -/
def hasI (f : Nat → Nat) (i : Int) : Bool := decide (0 ≤ i) && has f i.toNat
theorem hasI_nat (f : Nat → Nat) (i : Nat) : hasI f i = has f i := by simp [hasI]
theorem hasI_out {f : Nat → Nat} {i : Int} (h : i < 0 ∨ 1440 ≤ i) : hasI f i = false := by
  unfold hasI has
  rcases h with h | h
  · rw [decide_eq_false (by omega)]; rfl
  · rw [decide_eq_false (show ¬ i.toNat < 1440 by omega)]; simp
theorem bit_and (x m : Nat) (hx : x < 18446744073709551616) (hm : m < 64) : (bits .and .u64 (x : Int) (IntKind.u64.wrap (2 ^ m)) != 0) = x.testBit m := by
  have hp : 2 ^ m < 18446744073709551616 := (show 2 ^ m < 2 ^ 64 from Nat.pow_lt_pow_right (by omega) hm)
  have e : IntKind.u64.wrap (2 ^ m) = ((2 ^ m : Nat) : Int) := by
    have h2 : ((2 : Int) ^ m) = ((2 ^ m : Nat) : Int) := by rw [Int.natCast_pow]; rfl
    rw [h2]
    generalize 2 ^ m = y at hp
    exact IntWalk.u64_in _ (by omega)
  rw [e, u64_and_nat x (2 ^ m) hx hp]
  have h3 : x &&& 2 ^ m = if x.testBit m = true then 2 ^ m else 0 := by
    apply Nat.eq_of_testBit_eq
    intro j
    rw [Nat.testBit_and, Nat.testBit_two_pow]
    by_cases hj : m = j
    · subst hj
      cases h : x.testBit m <;> simp
    · cases h : x.testBit m <;> simp [hj]
  rw [h3]
  have hpos : 0 < 2 ^ m := Nat.two_pow_pos m
  cases h : x.testBit m
  · simp
  · simp only [if_true]
    rw [bne_iff_ne]; omega

set_option maxHeartbeats 400000 in
theorem Has_out (f : Nat → Nat) (i : Int) (w : World) (h : i < 0 ∨ 1440 ≤ i) :
    Calls Try.prog 35 #[.agg (maskA f), .int .i64 i] w fun e w' => e = .returned (.bool false) ∧ Below w.heap.size w w' := by
  have hc : decide (0 ≤ i) = false ∨ decide (0 ≤ i) = true ∧ decide (i < 1440) = false := by simp only [decide_eq_true_eq, decide_eq_false_iff_not]; omega
  clear h
  rcases hc with g1 | ⟨g1, g2⟩
  all_goals
    go_enter Try.func35, Try.ntmps35
    go_wp2
    refine wp_region_below (w.heap.size + 1) _ (Below.refl _ _) (by kernel_rfl) (by kernel_rfl) ?_
    repeat (go_big_quiet_step ((fail)))
    refine wpQuiet_nil ?_
    rintro _ ⟨n1, rfl⟩
    have z := n1.size
    simp at z
    go_wp2
    go_ret
    exact ⟨rfl, (by repeat (first | exact Below.refl _ _ | assumption | refine Below.n _ ?_ (by first | omega | (simp; done) | (simp; omega)) | refine Below.alloc ?_ (by first | omega | (simp; done) | (simp; omega)) _ | refine Below.setCell ?_ (by first | omega | (simp; done) | (simp; omega)) _ | refine Below.drew ?_ | refine Below.setRow ?_ (by first | omega | (simp; done) | (simp; omega)) _ | refine Below.drewN ?_ _))⟩
set_option maxHeartbeats 400000 in
theorem Has_in (f : Nat → Nat) (i : Nat) (w : World) (hf : ∀ k, k < 23 → f k < 18446744073709551616) (h : i < 1440) :
    Calls Try.prog 35 #[.agg (maskA f), .int .i64 i] w fun e w' => e = .returned (.bool (has f i)) ∧ Below w.heap.size w w' := by
  have g1 : decide ((i : Int) < 1440) = true := by simp; omega
  have hi : i / 64 < 23 := by omega
  have hv := bit_and (f (i / 64)) (i % 64) (hf _ hi) (by omega)
  have c0 := (Blk.new w 52 (maskA f)).cell (i / 64)
  rw [maskA_get, if_pos hi] at c0
  have e : has f i = (f (i / 64)).testBit (i % 64) := by unfold has; simp [h]
  rw [e]
  clear e
  go_enter Try.func35, Try.ntmps35
  go_wp2
  refine wp_region_below (w.heap.size + 1) _ (Below.refl _ _) (by kernel_rfl) (by kernel_rfl) ?_
  repeat (go_big_quiet_step ((fail)))
  refine wpQuiet_nil ?_
  rintro _ ⟨n1, rfl⟩
  have z := n1.size
  simp at z
  go_wp2
  go_ret
  exact ⟨rfl, (by repeat (first | exact Below.refl _ _ | assumption | refine Below.n _ ?_ (by first | omega | (simp; done) | (simp; omega)) | refine Below.alloc ?_ (by first | omega | (simp; done) | (simp; omega)) _ | refine Below.setCell ?_ (by first | omega | (simp; done) | (simp; omega)) _ | refine Below.drew ?_ | refine Below.setRow ?_ (by first | omega | (simp; done) | (simp; omega)) _ | refine Below.drewN ?_ _))⟩
theorem Has_any (f : Nat → Nat) (i : Int) (w : World) (hf : ∀ k, k < 23 → f k < 18446744073709551616) :
    Calls Try.prog 35 #[.agg (maskA f), .int .i64 i] w fun e w' => e = .returned (.bool (hasI f i)) ∧ Below w.heap.size w w' := by
  by_cases h : i < 0 ∨ 1440 ≤ i
  · rw [hasI_out h]; exact Has_out f i w h
  · obtain ⟨q, rfl⟩ := Int.eq_ofNat_of_zero_le (show 0 ≤ i by omega)
    rw [hasI_nat]; exact Has_in f q w hf (by omega)

end Msk
end Go.Proofs.Ytbaomgdkoglebaa
