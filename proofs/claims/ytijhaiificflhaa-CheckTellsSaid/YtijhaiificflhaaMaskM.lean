/- Masks as plain numbers: 23 words of 64 bits; the set of minutes that a mask has; the mask of a set. Nothing of the program is in sight. -/
import Derived.KernelRfl
namespace Go.Proofs.Ytijhaiificflhaa
namespace Msk

/-- does a row of words have a minute? -/
def has (f : Nat → Nat) (i : Nat) : Bool := decide (i < 1440) && (f (i / 64)).testBit (i % 64)

/-- the number whose bit j is p (b + j), for j < n -/
def bitsTo (p : Nat → Bool) (b : Nat) : Nat → Nat
  | 0 => 0
  | n + 1 => bitsTo p b n + if p (b + n) then 2 ^ n else 0

theorem bitsTo_lt (p : Nat → Bool) (b n : Nat) : bitsTo p b n < 2 ^ n := by
  induction n with
  | zero => simp [bitsTo]
  | succ n ih =>
    have : 2 ^ (n + 1) = 2 ^ n + 2 ^ n := by omega
    unfold bitsTo
    split <;> omega

theorem bitsTo_bit (p : Nat → Bool) (b n j : Nat) : (bitsTo p b n).testBit j = (decide (j < n) && p (b + j)) := by
  induction n with
  | zero => simp [bitsTo]
  | succ n ih =>
    have hl := bitsTo_lt p b n
    unfold bitsTo
    by_cases hp : p (b + n) = true
    · rw [if_pos hp, Nat.add_comm (bitsTo p b n)]
      rcases Nat.lt_trichotomy j n with h | h | h
      · rw [Nat.testBit_two_pow_add_gt h, ih]
        simp [h, show j < n + 1 by omega]
      · subst h
        rw [Nat.testBit_two_pow_add_eq, Nat.testBit_lt_two_pow hl]
        simp [hp]
      · have : 2 ^ n + bitsTo p b n < 2 ^ j := by
          have : 2 ^ (n + 1) ≤ 2 ^ j := Nat.pow_le_pow_right (by omega) h
          have : 2 ^ (n + 1) = 2 ^ n + 2 ^ n := by omega
          omega
        rw [Nat.testBit_lt_two_pow this]
        simp [show ¬ j < n + 1 by omega]
    · rw [if_neg hp, Nat.add_zero, ih]
      by_cases hj : j = n
      · subst hj; simp at hp; simp [hp]
      · by_cases h : j < n
        · simp [h, show j < n + 1 by omega]
        · simp [h, show ¬ j < n + 1 by omega]

/-- the words of a set of minutes -/
def setW (p : Nat → Bool) (k : Nat) : Nat := bitsTo (fun i => decide (i < 1440) && p i) (64 * k) 64

theorem setW_lt (p : Nat → Bool) (k : Nat) : setW p k < 18446744073709551616 := bitsTo_lt _ _ 64
theorem setW_bit (p : Nat → Bool) (k j : Nat) : (setW p k).testBit j = (decide (j < 64) && (decide (64 * k + j < 1440) && p (64 * k + j))) := bitsTo_bit _ _ _ _
theorem has_setW (p : Nat → Bool) (i : Nat) : has (setW p) i = (decide (i < 1440) && p i) := by
  unfold has
  rw [setW_bit, show 64 * (i / 64) + i % 64 = i by omega]
  by_cases h : i < 1440 <;> simp [h, show i % 64 < 64 by omega]
theorem setW_congr {p q : Nat → Bool} (h : ∀ i, i < 1440 → p i = q i) : setW p = setW q := by
  funext k
  apply Nat.eq_of_testBit_eq
  intro j
  rw [setW_bit, setW_bit]
  by_cases hj : 64 * k + j < 1440
  · rw [h _ hj]
  · simp [hj]
theorem setW_inj {p q : Nat → Bool} (h : ∀ k, k < 23 → setW p k = setW q k) {i : Nat} (hi : i < 1440) : p i = q i := by
  have h1 := has_setW p i
  have h2 := has_setW q i
  simp only [hi, decide_true, Bool.true_and] at h1 h2
  rw [← h1, ← h2]
  unfold has
  rw [h _ (by omega)]

/-- without the bits behind the last minute -/
def cleanW (f : Nat → Nat) (k : Nat) : Nat := if k = 22 then f k &&& 4294967295 else f k
theorem cleanW_eq {f : Nat → Nat} {k : Nat} (hk : k < 23) (hf : f k < 18446744073709551616) : cleanW f k = setW (has f) k := by
  apply Nat.eq_of_testBit_eq
  intro j
  rw [setW_bit]
  have hc : (cleanW f k).testBit j = (decide (j < 64) && (decide (64 * k + j < 1440) && (f k).testBit j)) := by
    unfold cleanW
    split
    · rename_i h
      subst h
      rw [Nat.testBit_and, show (4294967295 : Nat) = 2 ^ 32 - 1 by rfl, Nat.testBit_two_pow_sub_one]
      by_cases h1 : j < 32
      · simp [h1, show j < 64 by omega, show 64 * 22 + j < 1440 by omega]
      · simp [h1, show ¬ 64 * 22 + j < 1440 by omega]
    · by_cases h1 : j < 64
      · simp [h1, show 64 * k + j < 1440 by omega]
      · have : f k < 2 ^ j := Nat.lt_of_lt_of_le hf (show 2 ^ 64 ≤ 2 ^ j from Nat.pow_le_pow_right (by omega) (by omega))
        rw [Nat.testBit_lt_two_pow this]
        simp [h1]
  rw [hc]
  by_cases h1 : j < 64
  · by_cases h2 : 64 * k + j < 1440
    · simp [h1, h2, has, show (64 * k + j) / 64 = k by omega, show (64 * k + j) % 64 = j by omega]
    · simp [h2]
  · simp [h1]

theorem setW_lt32 (p : Nat → Bool) : setW p 22 < 4294967296 := by
  apply Nat.lt_pow_two_of_testBit (n := 32)
  intro j hj
  rw [setW_bit]
  simp [show ¬ 64 * 22 + j < 1440 by omega]
theorem cleanW_setW (p : Nat → Bool) (k : Nat) (hk : k < 23) : cleanW (setW p) k = setW p k := by
  rw [cleanW_eq hk (setW_lt _ _)]
  have : setW (has (setW p)) = setW p := setW_congr fun i hi => by rw [has_setW]; simp [hi]
  rw [this]

/-- the words of two masks, one by one -/
theorem has_or (f g : Nat → Nat) (i : Nat) : has (fun k => f k ||| g k) i = (has f i || has g i) := by
  unfold has; rw [Nat.testBit_or]; cases decide (i < 1440) <;> simp
theorem has_and (f g : Nat → Nat) (i : Nat) : has (fun k => f k &&& g k) i = (has f i && has g i) := by
  unfold has; rw [Nat.testBit_and]; cases decide (i < 1440) <;> simp
/-- x without y, of words of 64 bits -/
def sans (x y : Nat) : Nat := x &&& (18446744073709551615 - y)
theorem sans_bit {x y : Nat} (hx : x < 18446744073709551616) (hy : y < 18446744073709551616) (j : Nat) : (sans x y).testBit j = (x.testBit j && !y.testBit j) := by
  unfold sans
  rw [Nat.testBit_and, show 18446744073709551615 - y = 2 ^ 64 - (y + 1) by omega, Nat.testBit_two_pow_sub_succ (by omega)]
  by_cases h1 : j < 64
  · simp [h1]
  · have : x < 2 ^ j := Nat.lt_of_lt_of_le hx (show 2 ^ 64 ≤ 2 ^ j from Nat.pow_le_pow_right (by omega) (by omega))
    simp [Nat.testBit_lt_two_pow this]
theorem has_sans {f g : Nat → Nat} (hf : ∀ k, k < 23 → f k < 18446744073709551616) (hg : ∀ k, k < 23 → g k < 18446744073709551616) (i : Nat) : has (fun k => sans (f k) (g k)) i = (has f i && !has g i) := by
  unfold has
  by_cases h : i < 1440
  · rw [sans_bit (hf _ (by omega)) (hg _ (by omega))]
    simp [h]
  · simp [h]

/-- a minute of a list of spans -/
def inSpans (l : List (Int × Int)) (i : Nat) : Bool := l.any fun s => decide (s.1 ≤ i) && decide ((i : Int) < s.2)

/-- does a set have all minutes from a on, below b? -/
def hasAll (p : Nat → Bool) (a b : Int) : Prop := ∀ i : Nat, a ≤ i → (i : Int) < b → p i = true

/-- a whole word, and one bit, put in -/
theorem setW_word (p : Nat → Bool) (n : Nat) (hn : 64 * n + 64 ≤ 1440) : (fun j => if j = n then 18446744073709551615 else setW p j) = setW (fun q => p q || (decide (64 * n ≤ q) && decide (q < 64 * n + 64))) := by
  funext k
  apply Nat.eq_of_testBit_eq
  intro j
  rw [setW_bit]
  by_cases hk : k = n
  · subst hk
    rw [if_pos rfl, show (18446744073709551615 : Nat) = 2 ^ 64 - 1 by rfl, Nat.testBit_two_pow_sub_one]
    by_cases h : j < 64
    · simp [h]; omega
    · simp [h]
  · rw [if_neg hk, setW_bit]
    by_cases h : j < 64
    · have : (decide (64 * n ≤ 64 * k + j) && decide (64 * k + j < 64 * n + 64)) = false := by simp; omega
      simp [h, this]
    · simp [h]
theorem setW_or_bit (p : Nat → Bool) (i : Nat) (hi : i < 1440) : (fun j => if j = i / 64 then setW p (i / 64) ||| 2 ^ (i % 64) else setW p j) = setW (fun q => p q || decide (q = i)) := by
  funext k
  apply Nat.eq_of_testBit_eq
  intro j
  rw [setW_bit]
  by_cases hk : k = i / 64
  · subst hk
    rw [if_pos rfl, Nat.testBit_or, setW_bit, Nat.testBit_two_pow]
    by_cases h : j < 64
    · by_cases h2 : i % 64 = j
      · simp [h, h2, show 64 * (i / 64) + j = i by omega, hi]
      · simp [h, h2, show ¬ 64 * (i / 64) + j = i by omega]
    · simp [h]; omega
  · rw [if_neg hk, setW_bit]
    by_cases h : j < 64
    · simp [h, show ¬ 64 * k + j = i by omega]
    · simp [h]

/-- minutes from a on, below i, put to a set: 64 more; one more -/
theorem grow_word (p : Nat → Bool) (a : Int) (q : Nat) (ha : a ≤ q) (hm : q % 64 = 0) (hq : q + 64 ≤ 1440) :
    (fun j => if j = q / 64 then 18446744073709551615 else setW (fun x => p x || (decide (a ≤ (x : Int)) && decide ((x : Int) < (q : Int)))) j) = setW (fun x => p x || (decide (a ≤ (x : Int)) && decide ((x : Int) < (q : Int) + 64))) := by
  rw [setW_word _ _ (by omega)]
  apply setW_congr
  intro x _
  cases p x
  · simp only [Bool.false_or]
    rw [Bool.eq_iff_iff]
    simp
    omega
  · simp
theorem grow_bit (p : Nat → Bool) (a : Int) (q : Nat) (ha : a ≤ q) (hq : q < 1440) :
    (fun j => if j = q / 64 then setW (fun x => p x || (decide (a ≤ (x : Int)) && decide ((x : Int) < (q : Int)))) (q / 64) ||| 2 ^ (q % 64) else setW (fun x => p x || (decide (a ≤ (x : Int)) && decide ((x : Int) < (q : Int)))) j) =
      setW (fun x => p x || (decide (a ≤ (x : Int)) && decide ((x : Int) < (q : Int) + 1))) := by
  rw [setW_or_bit _ _ hq]
  apply setW_congr
  intro x _
  cases p x
  · simp only [Bool.false_or]
    rw [Bool.eq_iff_iff]
    simp
    omega
  · simp
theorem inSpans_snoc (l : List (Int × Int)) (j : Nat) (s : Int × Int) (h : l[j]? = some s) (x : Nat) : inSpans (l.take (j + 1)) x = (inSpans (l.take j) x || (decide (s.1 ≤ x) && decide ((x : Int) < s.2))) := by
  unfold inSpans
  obtain ⟨hj, rfl⟩ := List.getElem?_eq_some_iff.1 h
  rw [List.take_succ_eq_append_getElem hj, List.any_append]
  simp

theorem setW_none : setW (fun _ => false) = fun _ => 0 := by
  funext k
  apply Nat.eq_of_testBit_eq
  intro j
  rw [setW_bit]
  simp

end Msk
end Go.Proofs.Ytijhaiificflhaa
