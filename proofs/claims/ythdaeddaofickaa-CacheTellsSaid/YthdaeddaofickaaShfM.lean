/- Words of a shifted mask. No walk. -/
import Derived.Test.YthdaeddaofickaaMaskN
namespace Go.Proofs.Ythdaeddaofickaa
namespace Msk

/-- word i of a mask that is shifted by W words and r bits -/
def shA (f : Nat → Nat) (W : Int) (r i : Nat) : Nat := if 0 ≤ (i : Int) - W ∧ (i : Int) - W < 23 then f ((i : Int) - W).toNat * 2 ^ r % 18446744073709551616 else 0
def shB (f : Nat → Nat) (W : Int) (r i : Nat) : Nat := if 0 < r ∧ 0 ≤ (i : Int) - W - 1 ∧ (i : Int) - W - 1 < 23 then f ((i : Int) - W - 1).toNat / 2 ^ (64 - r) else 0
def shF (f : Nat → Nat) (W : Int) (r i : Nat) : Nat := shA f W r i ||| shB f W r i

theorem mul_pow_bit (x r j : Nat) (hj : j < 64) : (x * 2 ^ r % 18446744073709551616).testBit j = (decide (r ≤ j) && x.testBit (j - r)) := by
  rw [show (18446744073709551616 : Nat) = 2 ^ 64 by rfl, Nat.testBit_mod_two_pow, decide_eq_true hj, Bool.true_and, Nat.mul_comm, Nat.testBit_two_pow_mul]
theorem has_shF (p : Nat → Bool) (W : Int) (r : Nat) (hr : r < 64) (i : Nat) (hi : i < 1440) : has (shF (setW p) W r) i = shS p (64 * W + r) i := by
  unfold has shF
  rw [decide_eq_true hi, Bool.true_and, Nat.testBit_or]
  have hA : (shA (setW p) W r (i / 64)).testBit (i % 64) = (decide (r ≤ i % 64) && shS p (64 * W + r) i) := by
    unfold shA shS
    split
    · rename_i h
      rw [mul_pow_bit _ _ _ (by omega), setW_bit]
      by_cases h1 : r ≤ i % 64
      · have e : 64 * ((((i / 64 : Nat) : Int) - W).toNat) + (i % 64 - r) = ((i : Int) - (64 * W + r)).toNat := by omega
        rw [e]
        have e1 : decide (i % 64 - r < 64) = true := by simp; omega
        have e2 : decide (0 ≤ (i : Int) - (64 * W + r)) = true := by simp; omega
        have e3 : decide (((i : Int) - (64 * W + r)).toNat < 1440) = decide ((i : Int) - (64 * W + r) < 1440) := by rw [decide_eq_decide]; omega
        rw [e1, e2, e3]
      · simp [h1]
    · rename_i h
      rw [Nat.zero_testBit]
      by_cases h1 : r ≤ i % 64
      · have e2 : (decide (0 ≤ (i : Int) - (64 * W + r)) && decide ((i : Int) - (64 * W + r) < 1440)) = false := by simp; omega
        rw [← Bool.and_assoc (decide (0 ≤ (i : Int) - (64 * W + r))), e2]; simp
      · simp [h1]
  have hB : (shB (setW p) W r (i / 64)).testBit (i % 64) = (decide (i % 64 < r) && shS p (64 * W + r) i) := by
    unfold shB shS
    split
    · rename_i h
      rw [Nat.testBit_div_two_pow, setW_bit]
      by_cases h1 : i % 64 < r
      · have e : 64 * ((((i / 64 : Nat) : Int) - W - 1).toNat) + (i % 64 + (64 - r)) = ((i : Int) - (64 * W + r)).toNat := by omega
        rw [e]
        have e1 : decide (i % 64 + (64 - r) < 64) = true := by simp; omega
        have e2 : decide (0 ≤ (i : Int) - (64 * W + r)) = true := by simp; omega
        have e3 : decide (((i : Int) - (64 * W + r)).toNat < 1440) = decide ((i : Int) - (64 * W + r) < 1440) := by rw [decide_eq_decide]; omega
        rw [e1, e2, e3]; simp [h1]
      · have e1 : decide (i % 64 + (64 - r) < 64) = false := by simp; omega
        rw [e1]; simp [h1]
    · rename_i h
      rw [Nat.zero_testBit]
      by_cases h1 : i % 64 < r
      · have e2 : (decide (0 ≤ (i : Int) - (64 * W + r)) && decide ((i : Int) - (64 * W + r) < 1440)) = false := by simp; omega
        rw [← Bool.and_assoc (decide (0 ≤ (i : Int) - (64 * W + r))), e2]; simp
      · simp [h1]
  rw [hA, hB]
  by_cases h1 : r ≤ i % 64
  · simp [h1, show ¬ i % 64 < r by omega]
  · simp [h1, show i % 64 < r by omega]
theorem shift_set (p : Nat → Bool) (W : Int) (r : Nat) (hr : r < 64) : setW (has (shF (setW p) W r)) = setW (shS p (64 * W + r)) :=
  setW_congr fun i hi => has_shF p W r hr i hi
theorem shS_far {p : Nat → Bool} {n : Int} (h : n ≤ -1440 ∨ 1440 ≤ n) : setW (shS p n) = fun _ => 0 := by
  rw [← setW_none]
  apply setW_congr
  intro i hi
  unfold shS
  rcases h with h | h
  · rw [decide_eq_false (show ¬ (i : Int) - n < 1440 by omega)]; simp
  · rw [decide_eq_false (show ¬ 0 ≤ (i : Int) - n by omega)]; simp
theorem shA_lt (f : Nat → Nat) (W : Int) (r i : Nat) : shA f W r i < 18446744073709551616 := by
  unfold shA; split <;> omega
theorem shB_lt {f : Nat → Nat} (hf : ∀ k, k < 23 → f k < 18446744073709551616) (W : Int) (r i : Nat) : shB f W r i < 18446744073709551616 := by
  unfold shB
  split
  · rename_i h
    exact Nat.lt_of_le_of_lt (Nat.div_le_self _ _) (hf _ (by omega))
  · omega
theorem shF_lt {f : Nat → Nat} (hf : ∀ k, k < 23 → f k < 18446744073709551616) (W : Int) (r i : Nat) : shF f W r i < 18446744073709551616 := Nat.or_lt_two_pow (n := 64) (shA_lt f W r i) (shB_lt hf W r i)

end Msk
end Go.Proofs.Ythdaeddaofickaa
