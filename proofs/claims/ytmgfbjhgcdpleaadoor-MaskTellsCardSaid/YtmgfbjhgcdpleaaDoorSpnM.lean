/- What the walk of masks.Spans leans on: bits of words, spans as cells. No walk. -/
import Derived.Test.YtmgfbjhgcdpleaaDoorTz
namespace Go.Proofs.YtmgfbjhgcdpleaaDoor
open Go.RowKit
namespace Msk

theorem chain_len : ∀ {lo : Int} {l : List (Int × Int)}, chain lo l → lo + l.length ≤ 1440 ∨ l = []
  | _, [], _ => .inr rfl
  | lo, s :: l, h => by
    have h1 := h.1
    have h2 := h.2.1
    have h3 := h.2.2.1
    rcases chain_len h.2.2.2 with h4 | rfl
    · left; simp; omega
    · left; simp; omega
/-- spans as cells -/
def flatS (l : List (Int × Int)) : List Value := l.flatMap fun s => [.int .i64 s.1, .int .i64 s.2]
theorem flatS_length (l : List (Int × Int)) : (flatS l).length = l.length * 2 := by
  unfold flatS
  induction l with
  | nil => rfl
  | cons x xs ih => rw [List.flatMap_cons, List.length_append, ih]; simp; omega
theorem flatS_snoc (l : List (Int × Int)) (a b : Int) : flatS (l ++ [(a, b)]) = flatS l ++ [.int .i64 a, .int .i64 b] := by
  unfold flatS
  rw [List.flatMap_append]; rfl
theorem word_bit (p : Nat → Bool) (i j : Nat) : (setW p (i / 64) / 2 ^ (i % 64)).testBit j = (decide (i % 64 + j < 64) && (decide (i + j < 1440) && p (i + j))) := by
  rw [Nat.testBit_div_two_pow, setW_bit, show 64 * (i / 64) + (j + i % 64) = i + j by omega, show j + i % 64 = i % 64 + j by omega]
theorem bit_of (p : Nat → Bool) (b : Nat) : bits .and .u64 (((setW p (b / 64) : Nat) : Int) / 2 ^ (b % 64)) 1 = if decide (b < 1440) && p b then 1 else 0 := by
  have h := u64_and_nat (setW p (b / 64) / 2 ^ (b % 64)) 1 (Nat.lt_of_le_of_lt (Nat.div_le_self _ _) (setW_lt _ _)) (by omega)
  have e : ((setW p (b / 64) : Nat) : Int) / 2 ^ (b % 64) = ((setW p (b / 64) / 2 ^ (b % 64) : Nat) : Int) := by norm_cast
  have hb := word_bit p b 0
  rw [Nat.testBit_zero, Nat.add_zero, Nat.add_zero, decide_eq_true (show b % 64 < 64 by omega), Bool.true_and] at hb
  rw [e, show (1 : Int) = ((1 : Nat) : Int) from rfl, h, and_1, ← hb]
  by_cases h2 : setW p (b / 64) / 2 ^ (b % 64) % 2 = 1
  · rw [h2]; simp
  · have : setW p (b / 64) / 2 ^ (b % 64) % 2 = 0 := by omega
    rw [this]; simp
/-- has a word all bits? (behind a name: the numeral stays out of the walk) -/
def isFull (x : Nat) : Bool := x == 18446744073709551615
@[go_sem] theorem isFull_of (x : Nat) : ((x : Int) == 18446744073709551615) = isFull x := by
  unfold isFull
  rw [Bool.eq_iff_iff, beq_iff_eq, beq_iff_eq]
  omega
theorem full_word (p : Nat → Bool) (b : Nat) (hb : b % 64 = 0) (h0 : isFull (setW p (b / 64)) = true) : ∀ j, b ≤ j → j < b + 64 → j < 1440 ∧ p j = true := fun j h1 h2 => by
  have h : setW p (b / 64) = 18446744073709551615 := by unfold isFull at h0; simpa using h0
  have hj := setW_bit p (b / 64) (j - b)
  rw [h, show (18446744073709551615 : Nat) = 2 ^ 64 - 1 from rfl, Nat.testBit_two_pow_sub_one, show 64 * (b / 64) + (j - b) = j by omega, decide_eq_true (show j - b < 64 by omega)] at hj
  simp at hj
  exact hj

end Msk
end Go.Proofs.YtmgfbjhgcdpleaaDoor
